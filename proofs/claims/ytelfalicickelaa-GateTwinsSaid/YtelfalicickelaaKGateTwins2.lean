/- Texts of this claim, merged by a program (shake.py): what the last theorems reach of Pf5. -/
import Derived.Test.YtelfalicickelaaKB1
import Derived.Test.YtelfalicickelaaKGateTwins1
import Derived.Test.YtelfalicickelaaKB7
import Derived.Test.YtelfalicickelaaKB8
namespace Go.Proofs.Ytelfalicickelaa.P
open Go.RowKit Go.Proofs.YtelfalicickelaaW.PrintWords Go.Proofs.YtelfalicickelaaW.PrintLast Go.Proofs.YtelfalicickelaaW.PrintMore
attribute [local go_sem] max2_int max_two
set_option linter.unusedVariables false
set_option linter.unusedSimpArgs false
mutual
def neonwrightlaw07_GateTwins.l0 : Nat → List (List Int) → Int → List Int → Int → Int → Int → List (S40) → List Int → Option (Bool)
  | 0, _, _, _, _, _, _, _, _ => none
  | k + 1, x5, x6, x7, x8, x9, x313000, x313001, x313002 => if x9 < (x5.length : Int) then (if 0 ≤ x9 then (neonwrightlaw07_GateTwins.l1 k x5 x6 x7 (wrap64 (x8 + ((rd_L4 x5 x9).length : Int))) x9 0 x313000 x313001 x313002) else (none)) else (if x6 = 0 then ((neonwrightref07_Lines.f x313000 x313001 x313002).bind fun t332 => (neonwrightlaw07_GateTwins.j2 k x5 (x8 != (wrap64 (2 * t332))) x313000 x313001 x313002)) else (neonwrightlaw07_GateTwins.j2 k x5 true x313000 x313001 x313002))
def neonwrightlaw07_GateTwins.l1 : Nat → List (List Int) → Int → List Int → Int → Int → Int → Int → List (S40) → List Int → Option (Bool)
  | 0, _, _, _, _, _, _, _, _, _ => none
  | k + 1, x5, x6, x7, x8, x9, x10, x313000, x313001, x313002 => if 0 ≤ x9 then (if x9 < (x5.length : Int) then (if x10 < ((rd_L4 x5 x9).length : Int) then (if 0 ≤ x10 then ((neonwrightlaw07_has.f k x7 (rd (rd_L4 x5 x9) x10)).bind fun t328 => (if 0 < ((rd_L4 x5 x9).length : Int) then ((neonwrightlaw07_has.f k x7 (rd (rd_L4 x5 x9) 0)).bind fun t331 => (if (t328 != t331) = true then (some false) else (neonwrightlaw07_GateTwins.l1 k x5 x6 x7 x8 x9 (wrap64 (x10 + 1)) x313000 x313001 x313002))) else (none))) else (none)) else (neonwrightlaw07_GateTwins.l0 k x5 x6 x7 x8 (wrap64 (x9 + 1)) x313000 x313001 x313002)) else (none)) else (none)
def neonwrightlaw07_GateTwins.j2 : Nat → List (List Int) → Bool → Int → List (S40) → List Int → Option (Bool)
  | 0, _, _, _, _, _ => none
  | k + 1, x5, x98, x313000, x313001, x313002 => if x98 = true then (some false) else ((neonwrightref07_Lines.f x313000 x313001 x313002).bind fun t333 => (if 0 ≤ t333 then (if (t333 : Int).toNat ≤ 35184372088832 then (neonwrightlaw07_GateTwins.l2 k x5 (List.replicate (t333 : Int).toNat 0) 0 x313000 x313001 x313002) else (none)) else (none)))
def neonwrightlaw07_GateTwins.l2 : Nat → List (List Int) → List Int → Int → Int → List (S40) → List Int → Option (Bool)
  | 0, _, _, _, _, _, _ => none
  | k + 1, x5, x11, x12, x313000, x313001, x313002 => if x12 < (x313002.length : Int) then (if 0 ≤ x12 then (if 0 ≤ (rd x313002 x12) then (if (rd x313002 x12) < (x11.length : Int) then (neonwrightlaw07_GateTwins.l2 k x5 (x11.set ((rd x313002 x12) : Int).toNat (wrap64 ((rd x11 (rd x313002 x12)) + 2))) (wrap64 (x12 + 1)) x313000 x313001 x313002) else (none)) else (none)) else (none)) else (neonwrightlaw07_GateTwins.l3 k x5 x11 0 x313000 x313001 x313002)
def neonwrightlaw07_GateTwins.l3 : Nat → List (List Int) → List Int → Int → Int → List (S40) → List Int → Option (Bool)
  | 0, _, _, _, _, _, _ => none
  | k + 1, x5, x11, x13, x313000, x313001, x313002 => if x13 < (x313001.length : Int) then (if 0 ≤ x13 then (if 0 ≤ ((rd_T40 x313001 x13).f1) then (if ((rd_T40 x313001 x13).f1) < (x11.length : Int) then ((some (x11.set (((rd_T40 x313001 x13).f1) : Int).toNat (wrap64 ((rd x11 ((rd_T40 x313001 x13).f1)) + 1)) : List Int)).bind fun y343 => (if ((rd_T40 x313001 x13).f0) = 5 then (neonwrightlaw07_GateTwins.l3 k x5 y343 (wrap64 (x13 + 1)) x313000 x313001 x313002) else (if 0 ≤ ((rd_T40 x313001 x13).f2) then (if ((rd_T40 x313001 x13).f2) < (x11.length : Int) then (neonwrightlaw07_GateTwins.l3 k x5 (y343.set (((rd_T40 x313001 x13).f2) : Int).toNat (wrap64 ((rd y343 ((rd_T40 x313001 x13).f2)) + 1))) (wrap64 (x13 + 1)) x313000 x313001 x313002) else (none)) else (none)))) else (none)) else (none)) else (none)) else (neonwrightlaw07_GateTwins.l4 k x5 x11 0 x313000 x313001 x313002)
def neonwrightlaw07_GateTwins.l4 : Nat → List (List Int) → List Int → Int → Int → List (S40) → List Int → Option (Bool)
  | 0, _, _, _, _, _, _ => none
  | k + 1, x5, x11, x15, x313000, x313001, x313002 => if x15 < (x313001.length : Int) then (if 0 ≤ x15 then (if 0 ≤ ((rd_T40 x313001 x15).f1) then (if ((rd_T40 x313001 x15).f1) < (x11.length : Int) then (if (rd x11 ((rd_T40 x313001 x15).f1)) = 1 then ((neonwrightlaw07_twin.f k x5 ((rd_T40 x313001 x15).f0) ((rd_T40 x313001 x15).f1) (wrap64 (2 * (wrap64 (x313000 + x15))))).bind fun t350 => (neonwrightlaw07_GateTwins.j6 k x5 x11 x15 (wrap64 (2 * (wrap64 (x313000 + x15)))) (!t350) x313000 x313001 x313002 ((rd_T40 x313001 x15).f0) ((rd_T40 x313001 x15).f1) ((rd_T40 x313001 x15).f2))) else (neonwrightlaw07_GateTwins.j6 k x5 x11 x15 (wrap64 (2 * (wrap64 (x313000 + x15)))) false x313000 x313001 x313002 ((rd_T40 x313001 x15).f0) ((rd_T40 x313001 x15).f1) ((rd_T40 x313001 x15).f2))) else (none)) else (none)) else (none)) else ((neonwrightlaw07_alive.f).bind fun t346 => (some t346))
def neonwrightlaw07_GateTwins.j6 : Nat → List (List Int) → List Int → Int → Int → Bool → Int → List (S40) → List Int → Int → Int → Int → Option (Bool)
  | 0, _, _, _, _, _, _, _, _, _, _, _ => none
  | k + 1, x5, x11, x15, x17, x180, x313000, x313001, x313002, x349000, x349001, x349002 => if x180 = true then (some false) else (if x349000 = 5 then (neonwrightlaw07_GateTwins.l4 k x5 x11 (wrap64 (x15 + 1)) x313000 x313001 x313002) else (if 0 ≤ x349002 then (if x349002 < (x11.length : Int) then (if (rd x11 x349002) = 1 then ((neonwrightlaw07_twin.f k x5 x349000 x349002 x17).bind fun t352 => (if t352 = true then (neonwrightlaw07_GateTwins.l4 k x5 x11 (wrap64 (x15 + 1)) x313000 x313001 x313002) else (some false))) else (neonwrightlaw07_GateTwins.l4 k x5 x11 (wrap64 (x15 + 1)) x313000 x313001 x313002)) else (none)) else (none)))
end
def neonwrightlaw07_GateTwins.f (k : Nat) (a0_0 : Int) (l0_1 : List (S40)) (l0_2 : List Int) (a1 : Int) : Option (Bool) := (neonwrightlaw07_few.f a0_0 l0_1 l0_2).bind fun t313 => (if t313 = true then ((gate_Alike.f a0_0 l0_1 l0_2).bind fun bt315 => (if bt315.2 = 0 then (if 0 ≤ a0_0 then (if (shl .i64 1 a0_0) = 0 then (none) else ((gate_Shown.f a0_0 l0_1 l0_2 (Int.tmod (wrap64 (a1)) (shl .i64 1 a0_0))).bind fun bt320 => (neonwrightlaw07_GateTwins.l0 k bt315.1 bt320.2 bt320.1 0 0 a0_0 l0_1 l0_2))) else (none)) else (if bt315.2 = 2 then (if (bt315.1.length : Int) = 0 then ((neonwrightlaw07_alive.f).bind fun t319 => (some t319)) else (some false)) else (some false)))) else ((neonwrightlaw07_alive.f).bind fun t314 => (some t314)))
def neonwrightlaw07_GateTwins.T6 : Bool × List (List Nat × List Nat) := (true, [([], []), ([], []), ([1], [1]), ([], []), ([3], [3]), ([4], [4]), ([2, 5], [2, 5]), ([0, 6], [0, 6]), ([7], [7]), ([8], [8]), ([8], [8]), ([9, 7, 0, 1, 2, 3, 4, 5, 6, 7, 8, 9], [9]), ([10, 11, 0, 1, 2, 3, 4, 5, 6, 7, 8, 9, 10, 11], [10])])
def neonwrightlaw07_GateTwins.B6 : List Nat := [0, 0, 2, 0, 8, 24, 62, 127, 255, 511, 511, 1023, 4095]
theorem neonwrightlaw07_GateTwins.tab6 : rtab .any (opsOf Try.f5 6) = neonwrightlaw07_GateTwins.T6 := by kernel_rfl
theorem neonwrightlaw07_GateTwins.bits6 : waitsOk neonwrightlaw07_GateTwins.T6.2 neonwrightlaw07_GateTwins.B6 = true := by kernel_rfl
def neonwrightlaw07_GateTwins.T15 : Bool × List (List Nat × List Nat) := (true, [([], []), ([], []), ([], []), ([1, 2], [1, 2]), ([3], [3]), ([], []), ([4, 5], [4, 5]), ([6], [6]), ([0, 7], [0, 7]), ([], []), ([], []), ([], []), ([10, 11], [10, 11]), ([12], [12]), ([13], [13]), ([14], [14]), ([9, 15, 8], [9, 15]), ([8, 16], [8, 16])])
def neonwrightlaw07_GateTwins.B15 : List Nat := [0, 0, 0, 6, 14, 0, 62, 126, 255, 0, 0, 0, 3072, 7168, 15360, 31744, 65535, 131071]
theorem neonwrightlaw07_GateTwins.tab15 : rtab .any (opsOf Try.f5 15) = neonwrightlaw07_GateTwins.T15 := by kernel_rfl
theorem neonwrightlaw07_GateTwins.bits15 : waitsOk neonwrightlaw07_GateTwins.T15.2 neonwrightlaw07_GateTwins.B15 = true := by kernel_rfl
set_option maxHeartbeats 8000000 in
set_option maxRecDepth 100000 in
theorem neonwrightlaw07_GateTwins.calls (k : Nat) (a0_0 : Int) (A0_1 : Option Addr) (c0_1 : Nat) (l0_1 : List (S40)) (A0_2 : Option Addr) (c0_2 : Nat) (l0_2 : List Int) (a1 : Int) (r : Bool) (w : World) (hr0_1 : Kd.C k40 w A0_1 l0_1.length l0_1) (hc0_1 : l0_1.length ≤ c0_1) (hr0_2 : Kd.C (Kd.int .i64) w A0_2 l0_2.length l0_2) (hc0_2 : l0_2.length ≤ c0_2) (h : neonwrightlaw07_GateTwins.f k a0_0 l0_1 l0_2 a1 = some r) :
    Calls Try.prog 5 #[.agg #[.int .i64 a0_0, .slice A0_1 l0_1.length c0_1, .slice A0_2 l0_2.length c0_2], .int .u8 a1] w fun e w' => e = .returned (.bool r) ∧ Below w.heap.size w w' := by
  have hu25 := Try.underlying25
  have hu40 := Try.underlying40
  have HR0_1 := Aside0.mk hr0_1
  have HC0_1 := Aside0.mk hc0_1
  clear hr0_1 hc0_1
  have HR0_2 := Aside0.mk hr0_2
  have HC0_2 := Aside0.mk hc0_2
  clear hr0_2 hc0_2
  have HB := Aside0.mk (Below.refl w.heap.size w)
  have H : ((neonwrightlaw07_few.f a0_0 l0_1 l0_2).bind fun t313 => (if t313 = true then ((gate_Alike.f a0_0 l0_1 l0_2).bind fun bt315 => (if bt315.2 = 0 then (if 0 ≤ a0_0 then (if (shl .i64 1 a0_0) = 0 then (none) else ((gate_Shown.f a0_0 l0_1 l0_2 (Int.tmod (wrap64 (a1)) (shl .i64 1 a0_0))).bind fun bt320 => (neonwrightlaw07_GateTwins.l0 k bt315.1 bt320.2 bt320.1 0 0 a0_0 l0_1 l0_2))) else (none)) else (if bt315.2 = 2 then (if (bt315.1.length : Int) = 0 then ((neonwrightlaw07_alive.f).bind fun t319 => (some t319)) else (some false)) else (some false)))) else ((neonwrightlaw07_alive.f).bind fun t314 => (some t314)))) = some r := h
  clear h
  replace H := Option.bind_eq_some_iff.mp H
  obtain ⟨t313, A30, H⟩ := H
  replace H : (if t313 = true then ((gate_Alike.f a0_0 l0_1 l0_2).bind fun bt315 => (if bt315.2 = 0 then (if 0 ≤ a0_0 then (if (shl .i64 1 a0_0) = 0 then (none) else ((gate_Shown.f a0_0 l0_1 l0_2 (Int.tmod (wrap64 (a1)) (shl .i64 1 a0_0))).bind fun bt320 => (neonwrightlaw07_GateTwins.l0 k bt315.1 bt320.2 bt320.1 0 0 a0_0 l0_1 l0_2))) else (none)) else (if bt315.2 = 2 then (if (bt315.1.length : Int) = 0 then ((neonwrightlaw07_alive.f).bind fun t319 => (some t319)) else (some false)) else (some false)))) else ((neonwrightlaw07_alive.f).bind fun t314 => (some t314))) = some r := H
  have A3 := Aside0.mk A30
  clear A30
  by_cases c4 : t313 = true
  · subst c4
    have H1 : ((gate_Alike.f a0_0 l0_1 l0_2).bind fun bt315 => (if bt315.2 = 0 then (if 0 ≤ a0_0 then (if (shl .i64 1 a0_0) = 0 then (none) else ((gate_Shown.f a0_0 l0_1 l0_2 (Int.tmod (wrap64 (a1)) (shl .i64 1 a0_0))).bind fun bt320 => (neonwrightlaw07_GateTwins.l0 k bt315.1 bt320.2 bt320.1 0 0 a0_0 l0_1 l0_2))) else (none)) else (if bt315.2 = 2 then (if (bt315.1.length : Int) = 0 then ((neonwrightlaw07_alive.f).bind fun t319 => (some t319)) else (some false)) else (some false)))) = some r := by rw [if_pos rfl] at H; exact H
    clear H
    have H := H1
    clear H1
    replace H := Option.bind_eq_some_iff.mp H
    obtain ⟨⟨t315, t318⟩, A50, H⟩ := H
    replace H : (if t318 = 0 then (if 0 ≤ a0_0 then (if (shl .i64 1 a0_0) = 0 then (none) else ((gate_Shown.f a0_0 l0_1 l0_2 (Int.tmod (wrap64 (a1)) (shl .i64 1 a0_0))).bind fun bt320 => (neonwrightlaw07_GateTwins.l0 k t315 bt320.2 bt320.1 0 0 a0_0 l0_1 l0_2))) else (none)) else (if t318 = 2 then (if (t315.length : Int) = 0 then ((neonwrightlaw07_alive.f).bind fun t319 => (some t319)) else (some false)) else (some false))) = some r := H
    have A5 := Aside0.mk A50
    clear A50
    by_cases c6 : t318 = 0
    · rw [if_pos c6] at H
      have c6b0 : (t318 == 0) = true := beq_iff_eq.mpr c6
      have c6b1 : (t318 != 0) = false := bne_eq_false_iff_eq.mpr c6
      clear c6
      by_cases c7 : 0 ≤ a0_0
      · rw [if_pos c7] at H
        have c7b0 := eq_true c7
        have c7b1 : decide (0 ≤ a0_0) = true := decide_eq_true c7
        clear c7
        obtain ⟨ji8, hji8⟩ : ∃ j_ : Int, (shl .i64 1 a0_0) = j_ := ⟨_, rfl⟩
        replace H : (if (ji8) = 0 then (none) else ((gate_Shown.f a0_0 l0_1 l0_2 (Int.tmod (wrap64 (a1)) (ji8))).bind fun bt320 => (neonwrightlaw07_GateTwins.l0 k t315 bt320.2 bt320.1 0 0 a0_0 l0_1 l0_2))) = some r := by first | (rw [hji8] at H; exact H) | (simp only [hji8] at H ⊢; exact H)
        (try rw [hji8] at A3)
        (try rw [hji8] at A5)
        have hji8_ : (IntKind.i64.wrap (1 * 2 ^ min a0_0.toNat 64)) = ji8 := hji8
        have hji8z : a0_0 ≤ 64 → (IntKind.i64.wrap (1 * 2 ^ a0_0.toNat)) = ji8 := shl_small hji8
        have hji8u : (IntKind.i64.wrap (2 ^ min a0_0.toNat 64)) = ji8 := by have h_ := hji8_; rw [Int.one_mul] at h_; exact h_
        have hji8v : a0_0 ≤ 64 → (IntKind.i64.wrap (2 ^ a0_0.toNat)) = ji8 := fun hle_ => by have h_ := hji8z hle_; rw [Int.one_mul] at h_; exact h_
        have hji8y : (wrap64 (1 * 2 ^ min a0_0.toNat 64)) = ji8 := (i64_w _).symm.trans hji8_
        have hji8x : a0_0 ≤ 64 → (wrap64 (1 * 2 ^ a0_0.toNat)) = ji8 := fun h_ => (i64_w _).symm.trans (hji8z h_)
        by_cases c9 : (ji8) = 0
        · rw [if_pos c9] at H
          exact absurd H (by simp)
        · rw [if_neg c9] at H
          have c9b0 : ((ji8) == 0) = false := beq_eq_false_iff_ne.mpr c9
          have c9b1 : ((ji8) != 0) = true := bne_iff_ne.mpr c9
          replace H := Option.bind_eq_some_iff.mp H
          obtain ⟨⟨t320, t323⟩, A100, H⟩ := H
          replace H : (neonwrightlaw07_GateTwins.l0 k t315 t323 t320 0 0 a0_0 l0_1 l0_2) = some r := H
          have A10 := Aside0.mk A100
          clear A100
          have H' := Aside0.mk H
          clear H
          go_enter Try.func5, Try.ntmps5
          try go_wp2_with (first | ((with_reducible refine gate_dst (N := 2) rfl ?_); (try (refine gate_guard (by rfl) ?_; dsimp only)); refine box_event ?hg (N := 2) ?hd (cs := #[.int .i64 a0_0, .slice A0_1 l0_1.length c0_1, .slice A0_2 l0_2.length c0_2]) (t := 25) ?hr ?_; (case hd => rfl); (case hg => rfl); (case hr => first | (go_simp; done) | (go_simp; rfl)); intro gb312 hg w11 hbox hb; have n0_ := Aside0.mk (below_step (by repeat (first | (with_reducible first | exact HB.out | apply below_alloc | apply pw_below_drewN | apply below_drew1) | exact HB.out)) hb); have n1_ := Aside0.mk (hbox); have n2_ := Aside0.mk ((by rw [hg]; exact (below_size (by repeat (first | (with_reducible first | exact HB.out | apply below_alloc | apply pw_below_drewN | apply below_drew1) | exact HB.out))) : w.heap.size ≤ gb312)); have n3_ := Aside0.mk ((by rw [hg]; exact (below_size (by repeat (first | (with_reducible first | exact HB.out | apply below_alloc | apply pw_below_drewN | apply below_drew1) | exact HB.out))) : w.heap.size ≤ gb312)); clear HB; have HB := n0_; have BK312 := n1_; have GW312 := n2_; have GE312 := n3_; clear n0_ n1_ n2_ n3_; clear hb hbox hg; have hcz12_0 : w11.cell? ⟨gb312, 0, none⟩ = some (.int .i64 a0_0) := (blk_cell BK312.out 0).trans rfl; have hcz12_1 : w11.cell? ⟨gb312, 1, none⟩ = some (.slice A0_1 l0_1.length c0_1) := (blk_cell BK312.out 1).trans rfl; have hcz12_2 : w11.cell? ⟨gb312, 2, none⟩ = some (.slice A0_2 l0_2.length c0_2) := (blk_cell BK312.out 2).trans rfl; have hfz12_0 := blk_frozen BK312.out 0; have hfz12_1 := blk_frozen BK312.out 1; have hfz12_2 := blk_frozen BK312.out 2) | ((with_reducible refine gate_callee (f := 15) rfl ?_); refine goesL_ (some 19) rfl rfl Try.func15 (by kernel_rfl) rfl #[.agg #[.int .i64 a0_0, .slice A0_1 l0_1.length c0_1, .slice A0_2 l0_2.length c0_2]] rfl (by (try simp only [List.map_toArray, List.map_cons, List.map_nil]); first | done | rfl | (simp only [List.length_drop, List.length_take]; rfl)) ?_; (with_reducible refine (neonwrightlaw07_few.calls a0_0 _ _ l0_1 _ _ l0_2 true _ ?side1 ?side2 ?side3 ?side4 A3.out).mono ?_); (case side1 => repeat (first | exact (Kd.C_below HR0_1.out HB.out) | (with_reducible refine Kd.C_alloc ?_ _) | (with_reducible refine Kd.C_drewN ?_ _) | (with_reducible refine Kd.C_drew ?_))); (case side2 => exact HC0_1.out); (case side3 => repeat (first | exact (Kd.C_below HR0_2.out HB.out) | (with_reducible refine Kd.C_alloc ?_ _) | (with_reducible refine Kd.C_drewN ?_ _) | (with_reducible refine Kd.C_drew ?_))); (case side4 => exact HC0_2.out); rintro e w13 ⟨rfl, hb⟩; refine ⟨_, rfl, ?_⟩; have n0_ := Aside0.mk (blk_below (g := gb312) (o := .cells #[.int .i64 a0_0, .slice A0_1 l0_1.length c0_1, .slice A0_2 l0_2.length c0_2] 25 (0, 0)) (by (with_reducible repeat (first | refine blk_drewN ?_ _ | refine blk_drew ?_ | refine blk_alloc ?_ _)); exact BK312.out) hb); have n1_ := Aside0.mk (below_step (by repeat (first | (with_reducible first | exact HB.out | apply below_alloc | apply pw_below_drewN | apply below_drew1 | refine below_set ?_ GE312.out) | exact HB.out)) hb); clear BK312; clear HB; have BK312 := n0_; have HB := n1_; clear n0_ n1_; (try clear hb); (try clear hb2); (try clear hk); (try clear hi); have hcz14_0 : w13.cell? ⟨gb312, 0, none⟩ = some (.int .i64 a0_0) := (blk_cell BK312.out 0).trans rfl; have hcz14_1 : w13.cell? ⟨gb312, 1, none⟩ = some (.slice A0_1 l0_1.length c0_1) := (blk_cell BK312.out 1).trans rfl; have hcz14_2 : w13.cell? ⟨gb312, 2, none⟩ = some (.slice A0_2 l0_2.length c0_2) := (blk_cell BK312.out 2).trans rfl; have hfz14_0 := blk_frozen BK312.out 0; have hfz14_1 := blk_frozen BK312.out 1; have hfz14_2 := blk_frozen BK312.out 2) | ((with_reducible refine gate_callee (f := 18) rfl ?_); refine goesL_ (some 24) rfl rfl Try.func18 (by kernel_rfl) rfl #[.agg #[.int .i64 a0_0, .slice A0_1 l0_1.length c0_1, .slice A0_2 l0_2.length c0_2]] rfl (by (try simp only [List.map_toArray, List.map_cons, List.map_nil]); first | done | rfl | (simp only [List.length_drop, List.length_take]; rfl)) ?_; (with_reducible refine (gate_Alike.calls a0_0 _ _ l0_1 _ _ l0_2 t315 t318 _ ?side1 ?side2 ?side3 ?side4 A5.out).mono ?_); (case side1 => repeat (first | exact (Kd.C_below HR0_1.out HB.out) | (with_reducible refine Kd.C_alloc ?_ _) | (with_reducible refine Kd.C_drewN ?_ _) | (with_reducible refine Kd.C_drew ?_))); (case side2 => exact HC0_1.out); (case side3 => repeat (first | exact (Kd.C_below HR0_2.out HB.out) | (with_reducible refine Kd.C_alloc ?_ _) | (with_reducible refine Kd.C_drewN ?_ _) | (with_reducible refine Kd.C_drew ?_))); (case side4 => exact HC0_2.out); rintro e w15 ⟨v316, rfl, ho0, hb⟩; refine ⟨_, rfl, ?_⟩; have n0_ := Aside0.mk (Kd.S_lower ho0 (below_size (by repeat (first | (with_reducible first | exact HB.out | apply below_alloc | apply pw_below_drewN | apply below_drew1 | refine below_set ?_ GE312.out) | exact HB.out)))); have n1_ := Aside0.mk (blk_below (g := gb312) (o := .cells #[.int .i64 a0_0, .slice A0_1 l0_1.length c0_1, .slice A0_2 l0_2.length c0_2] 25 (0, 0)) (by (with_reducible repeat (first | refine blk_drewN ?_ _ | refine blk_drew ?_ | refine blk_alloc ?_ _)); exact BK312.out) hb); have n2_ := Aside0.mk (below_step (by repeat (first | (with_reducible first | exact HB.out | apply below_alloc | apply pw_below_drewN | apply below_drew1 | refine below_set ?_ GE312.out) | exact HB.out)) hb); clear BK312; clear HB; have HO317 := n0_; have BK312 := n1_; have HB := n2_; clear n0_ n1_ n2_; (try clear hb); (try clear hb2); (try clear hk); (try clear hi); (try clear ho0)))
          have n0_ := Aside0.mk (Kd.S_drew HO317.out)
          have n1_ := Aside0.mk (blk_drew BK312.out)
          have n2_ := Aside0.mk (below_drew1 HB.out)
          clear HO317
          clear BK312
          clear HB
          have HO317 := n0_
          have BK312 := n1_
          have HB := n2_
          clear n0_ n1_ n2_
          refine start_ (n := 13) (S := fun w' => w'.cell? ⟨gb312, 0, none⟩ = some (.int .i64 a0_0) ∧ w'.cell? ⟨gb312, 1, none⟩ = some (.slice A0_1 l0_1.length c0_1) ∧ w'.cell? ⟨gb312, 2, none⟩ = some (.slice A0_2 l0_2.length c0_2)) (ds := []) #[false, false, false, false, false, false, false, false, false, false, false, false, false] (by kernel_rfl) rfl rfl ⟨(blk_cell BK312.out 0).trans rfl, (blk_cell BK312.out 1).trans rfl, (blk_cell BK312.out 2).trans rfl⟩ (fun hHeld => ?_); refine with_tabW neonwrightlaw07_GateTwins.tab6 neonwrightlaw07_GateTwins.bits6 (fun HT_ HW_ => ?_)
          generalize w15.drew = w16 at HO317 BK312 HB hHeld ⊢
          refine pure_ (i := 1) (N := some 41) (v := ?_) (a' := ?_) #[false, true, false, false, false, false, false, false, false, false, false, false, false] rfl rfl (any_of HT_.out (by kernel_rfl)) (fun _ _ _ h => h) (Or.inl ⟨by rfl, ?_⟩) ?_ ?_
          rotate_left
          · intro w'
            go_simp
            with_reducible rfl
          rotate_left
          · simp only [Act.put, List.setIfInBounds_toArray, List.set_cons_zero, List.set_cons_succ, i64_w, i32_w]
            rfl
          refine pure_ (i := 2) (N := some 42) (v := ?_) (a' := ?_) #[false, true, true, false, false, false, false, false, false, false, false, false, false] rfl rfl (any_of HT_.out (by kernel_rfl)) (fun _ _ _ h => h) (Or.inl ⟨by rfl, ?_⟩) ?_ ?_
          rotate_left
          · intro w'
            go_simp
            with_reducible rfl
          rotate_left
          · simp only [Act.put, List.setIfInBounds_toArray, List.set_cons_zero, List.set_cons_succ, i64_w, i32_w]
            rfl
          refine pure_ (i := 3) (N := some 43) (v := ?_) (a' := ?_) #[false, true, true, true, false, false, false, false, false, false, false, false, false] rfl rfl (any_of HT_.out (by kernel_rfl)) (fun _ _ _ h => h) (Or.inl ⟨by rfl, ?_⟩) ?_ ?_
          rotate_left
          · intro w'
            go_simp
            with_reducible rfl
          rotate_left
          · simp only [Act.put, List.setIfInBounds_toArray, List.set_cons_zero, List.set_cons_succ, i64_w, i32_w]
            rfl
          refine take_ (i := 0) (N := some 40) (v := ?_) (a' := ?_) #[true, true, true, true, false, false, false, false, false, false, false, false, false] rfl rfl (take_ofW HT_.out HW_.out (by kernel_rfl)) (fun _ _ _ h => h) (Or.inl ⟨by rfl, ?_⟩) hHeld ?_ ?_
          rotate_left
          · rintro w' ⟨s0, s1, s2⟩
            (try simp only [add_plain] at s0)
            (try simp only [add_plain] at s1)
            (try simp only [add_plain] at s2)
            go_simp
            with_reducible rfl
          rotate_left
          · simp only [Act.put, List.setIfInBounds_toArray, List.set_cons_zero, List.set_cons_succ, i64_w, i32_w]
            rfl
          refine take_ (i := 4) (N := some 44) (v := ?_) (a' := ?_) #[true, true, true, true, true, false, false, false, false, false, false, false, false] rfl rfl (take_ofW HT_.out HW_.out (by kernel_rfl)) (fun _ _ _ h => h) (Or.inl ⟨by rfl, ?_⟩) hHeld ?_ ?_
          rotate_left
          · rintro w' ⟨s0, s1, s2⟩
            (try simp only [add_plain] at s0)
            (try simp only [add_plain] at s1)
            (try simp only [add_plain] at s2)
            go_simp
            with_reducible rfl
          rotate_left
          · simp only [Act.put, List.setIfInBounds_toArray, List.set_cons_zero, List.set_cons_succ, i64_w, i32_w]
            rfl
          refine pure_ (i := 5) (N := some 45) (v := ?_) (a' := ?_) #[true, true, true, true, true, true, false, false, false, false, false, false, false] rfl rfl (any_of HT_.out (by kernel_rfl)) (fun _ _ _ h => h) (Or.inl ⟨by rfl, ?_⟩) ?_ ?_
          rotate_left
          · intro w'
            go_simp
            with_reducible rfl
          rotate_left
          · simp only [Act.put, List.setIfInBounds_toArray, List.set_cons_zero, List.set_cons_succ, i64_w, i32_w]
            rfl
          refine pure_ (i := 6) (N := some 46) (v := ?_) (a' := ?_) #[true, true, true, true, true, true, true, false, false, false, false, false, false] rfl rfl (any_of HT_.out (by kernel_rfl)) (fun _ _ _ h => h) (Or.inl ⟨by rfl, ?_⟩) ?_ ?_
          rotate_left
          · intro w'
            go_simp
            with_reducible rfl
          rotate_left
          · simp only [Act.put, List.setIfInBounds_toArray, List.set_cons_zero, List.set_cons_succ, i64_w, i32_w]
            rfl
          refine one_ (i := 7) (N := some 47) #[true, true, true, true, true, true, true, true, false, false, false, false, false] rfl rfl (one_of HT_.out (by kernel_rfl)) (by decide) (fun K hK => ?_)
          refine goes_ Try.func25 (by kernel_rfl) rfl #[.agg #[.int .i64 a0_0, .slice A0_1 l0_1.length c0_1, .slice A0_2 l0_2.length c0_2], .int .i64 (Int.tmod (wrap64 (a1)) (ji8))] (by rfl) rfl rfl (by (try simp only [List.map_toArray, List.map_cons, List.map_nil]); first | done | (simp only [hji8]; rfl) | rfl | (simp only [List.length_drop, List.length_take]; rfl)) ?_
          with_reducible refine (gate_Shown.calls a0_0 _ _ l0_1 _ _ l0_2 (Int.tmod (wrap64 (a1)) (ji8)) t320 t323 _ ?side1 ?side2 ?side3 ?side4 A10.out).mono ?_
          (case side1 => repeat (first | exact (Kd.C_below HR0_1.out HB.out) | (with_reducible refine Kd.C_alloc ?_ _) | (with_reducible refine Kd.C_drewN ?_ _) | (with_reducible refine Kd.C_drew ?_)))
          (case side2 => exact HC0_1.out)
          (case side3 => repeat (first | exact (Kd.C_below HR0_2.out HB.out) | (with_reducible refine Kd.C_alloc ?_ _) | (with_reducible refine Kd.C_drewN ?_ _) | (with_reducible refine Kd.C_drew ?_)))
          (case side4 => exact HC0_2.out)
          rintro e w17 ⟨v321, rfl, ho0, hb⟩
          refine ⟨_, rfl, ?_⟩
          have n0_ := Aside0.mk (Kd.S_elder' (by (with_reducible repeat (first | apply Kd.S_alloc | apply Kd.S_drewN | apply Kd.S_drew)); exact HO317.out) (Kd.R_base ho0) hb)
          have n1_ := Aside0.mk (Kd.R_lower ho0 (below_size (by repeat (first | (with_reducible first | exact HB.out | apply below_alloc | apply pw_below_drewN | apply below_drew1 | refine below_set ?_ GE312.out) | exact HB.out))))
          have n2_ := Aside0.mk (blk_below (g := gb312) (o := .cells #[.int .i64 a0_0, .slice A0_1 l0_1.length c0_1, .slice A0_2 l0_2.length c0_2] 25 (0, 0)) (by (with_reducible repeat (first | refine blk_drewN ?_ _ | refine blk_drew ?_ | refine blk_alloc ?_ _)); exact BK312.out) hb)
          have n3_ := Aside0.mk (below_step (by repeat (first | (with_reducible first | exact HB.out | apply below_alloc | apply pw_below_drewN | apply below_drew1 | refine below_set ?_ GE312.out) | exact HB.out)) hb)
          clear HO317
          clear BK312
          clear HB
          have HO317 := n0_
          have HO322 := n1_
          have BK312 := n2_
          have HB := n3_
          clear n0_ n1_ n2_ n3_
          (try clear hb)
          (try clear hb2)
          (try clear hk)
          (try clear hi)
          (try clear ho0)
          refine hK.out _ _ ⟨(blk_cell BK312.out 0).trans rfl, (blk_cell BK312.out 1).trans rfl, (blk_cell BK312.out 2).trans rfl⟩ (fun hHeld => ?_)
          clear hK K
          refine norm_ (a' := ?_) ?_ ?_
          rotate_left
          · show Act.put _ (some 47) _ = _
            simp only [Act.put, List.setIfInBounds_toArray, List.set_cons_zero, List.set_cons_succ, i64_w, i32_w]
            rfl
          refine pure_ (i := 8) (N := some 39) (v := ?_) (a' := ?_) #[true, true, true, true, true, true, true, true, true, false, false, false, false] rfl rfl (any_of HT_.out (by kernel_rfl)) (fun _ _ _ h => h) (Or.inl ⟨by rfl, ?_⟩) ?_ ?_
          rotate_left
          · intro w'
            go_simp
            with_reducible rfl
          rotate_left
          · simp only [Act.put, List.setIfInBounds_toArray, List.set_cons_zero, List.set_cons_succ, i64_w, i32_w]
            rfl
          refine pure_ (i := 9) (N := some 48) (v := ?_) (a' := ?_) #[true, true, true, true, true, true, true, true, true, true, false, false, false] rfl rfl (any_of HT_.out (by kernel_rfl)) (fun _ _ _ h => h) (Or.inl ⟨by rfl, ?_⟩) ?_ ?_
          rotate_left
          · intro w'
            go_simp
            with_reducible rfl
          rotate_left
          · simp only [Act.put, List.setIfInBounds_toArray, List.set_cons_zero, List.set_cons_succ, i64_w, i32_w]
            rfl
          refine pure_ (i := 10) (N := some 49) (v := ?_) (a' := ?_) #[true, true, true, true, true, true, true, true, true, true, true, false, false] rfl rfl (any_of HT_.out (by kernel_rfl)) (fun _ _ _ h => h) (Or.inl ⟨by rfl, ?_⟩) ?_ ?_
          rotate_left
          · intro w'
            go_simp
            with_reducible rfl
          rotate_left
          · simp only [Act.put, List.setIfInBounds_toArray, List.set_cons_zero, List.set_cons_succ, i64_w, i32_w]
            rfl
          refine pure_ (i := 11) (N := some 7) (v := ?_) (a' := ?_) #[true, true, true, true, true, true, true, true, true, true, true, true, false] rfl rfl (any_of HT_.out (by kernel_rfl)) (fun _ _ _ h => h) (Or.inl ⟨by rfl, ?_⟩) ?_ ?_
          rotate_left
          · intro w'
            go_simp
            with_reducible rfl
          rotate_left
          · simp only [Act.put, List.setIfInBounds_toArray, List.set_cons_zero, List.set_cons_succ, i64_w, i32_w]
            rfl
          refine pure_ (i := 12) (N := some 6) (v := ?_) (a' := ?_) #[true, true, true, true, true, true, true, true, true, true, true, true, true] rfl rfl (any_of HT_.out (by kernel_rfl)) (fun _ _ _ h => h) (Or.inl ⟨by rfl, ?_⟩) ?_ ?_
          rotate_left
          · intro w'
            go_simp
            with_reducible rfl
          rotate_left
          · simp only [Act.put, List.setIfInBounds_toArray, List.set_cons_zero, List.set_cons_succ, i64_w, i32_w]
            rfl
          refine done_ (done_of HT_.out (by kernel_rfl)) ?_
          try go_wp2
          go_loopg [8, 9] k (fun kq v8 v9 w' => ∃ (x8_1 : Int) (x9_1 : Int), v8 = .int .i64 x8_1 ∧ v9 = .int .i64 x9_1 ∧ Aside0 (neonwrightlaw07_GateTwins.l0 kq t315 t323 t320 x8_1 x9_1 a0_0 l0_1 l0_2 = some r) ∧ Aside0 (kq ≤ k) ∧ Aside0 (Kd.S (Kd.slice 3 (Kd.int .i64)) 23 w' w.heap.size (fun k_ => some k_ ≠ (v321 : Value).ownBlock) v316 t315) ∧ Aside0 (Kd.R (Kd.int .i64) 3 w' w.heap.size (fun _ => True) v321 t320) ∧ Aside0 (w'.heap[gb312]? = some (.cells #[.int .i64 a0_0, (.slice A0_1 l0_1.length c0_1), (.slice A0_2 l0_2.length c0_2)] 25 (0, 0))) ∧ Aside0 (Below w.heap.size w w'))
          case atStart => exact ⟨(0), (0), (by first | rfl | (simp; done) | (simp [*]; done)), (by first | rfl | (simp; done) | (simp [*]; done)), H', ⟨Nat.le_refl _⟩, ⟨by (with_reducible repeat (first | apply Kd.S_alloc | apply Kd.S_drewN | apply Kd.S_drew)); exact Kd.S_mono HO317.out (fun _ hk => hk.2)⟩, ⟨by (with_reducible repeat (first | apply Kd.R_alloc | apply Kd.R_drewN | apply Kd.R_drew)); first | exact HO322.out | exact Kd.R_mono HO322.out (fun k_ h_ => ne_own_len h_)⟩, ⟨by (with_reducible repeat (first | refine blk_drewN ?_ _ | refine blk_drew ?_ | refine blk_alloc ?_ _)); exact BK312.out⟩, ⟨by repeat (first | (with_reducible first | exact HB.out | apply below_alloc | apply pw_below_drewN | apply below_drew1 | refine below_set ?_ GE312.out) | exact HB.out)⟩⟩
          case round =>
            clear H'
            try clear c1
            try clear c2
            try clear p2
            try clear c4
            try clear c5
            try clear c6
            try clear c6b0
            try clear c6b1
            try clear p6
            try clear c7
            try clear c7b0
            try clear c7b1
            try clear c9
            try clear c9b0
            try clear c9b1
            try clear c15
            try clear hcz12_0
            try clear hcz12_1
            try clear hcz12_2
            try clear hcz14_0
            try clear hcz14_1
            try clear hcz14_2
            try clear hfz12_0
            try clear hfz12_1
            try clear hfz12_2
            try clear hfz14_0
            try clear hfz14_1
            try clear hfz14_2
            obtain ⟨x8_1, x9_1, rfl, rfl, HA, HK1, HO_5, HO_7, BK312, HB⟩ := hrel
            cases gk with
            | zero => exact absurd HA.out (by simp [neonwrightlaw07_GateTwins.l0])
            | succ k1 =>
              have H := HA.out
              clear HA
              simp only [neonwrightlaw07_GateTwins.l0] at H
              by_cases c18 : x9_1 < (t315.length : Int)
              · rw [if_pos c18] at H
                have c18b0 : decide (x9_1 < (t315.length : Int)) = true := decide_eq_true c18
                clear c18
                by_cases c19 : 0 ≤ x9_1
                · rw [if_pos c19] at H
                  have c19b0 : decide (0 ≤ x9_1) = true := decide_eq_true c19
                  clear c19
                  have H' := Aside0.mk H
                  clear H
                  obtain ⟨Ao20, co20, eo20⟩ := Kd.S_slice HO_5.out
                  subst eo20
                  have p324 : 0 ≤ (x9_1 : Int) := of_decide_eq_true (by first | (with_reducible assumption) | assumption)
                  have q324 : x9_1 < (t315.length : Int) := of_decide_eq_true (by first | (with_reducible assumption) | assumption)
                  obtain ⟨ad324, A324_0, c324_0, e324, hx324_0, hl324_0, hi324_0⟩ := at_L4 (Kd.S_reads' HO_5.out).2.2 x9_1 p324 q324
                  cases e324
                  obtain ⟨ce324, hce324, hMe324, hcc324⟩ := Kd.S_get HO_5.out [] x9_1 p324 (by first | exact q324 | exact of_decide_eq_true (by first | (with_reducible assumption) | assumption) | (have e_ := (Kd.S_reads' HO_5.out).1; omega))
                  obtain ⟨ve324_0, rfl, ge324_0⟩ := hMe324
                  have hv324_0 := hcc324 0 _ rfl
                  rw [Nat.add_zero, show ((Kd.slice 3 (Kd.int .i64))).sz = 1 from rfl, Nat.mul_one] at hv324_0
                  replace hv324_0 := Option.some.inj (hv324_0.symm.trans hx324_0)
                  rw [hv324_0] at ge324_0
                  have HL324_0 := Aside0.mk (show Kd.R (Kd.int .i64) 3 _ _ _ _ (rd_L4 t315 x9_1) from ge324_0)
                  clear hv324_0 ge324_0
                  clear hcc324 hce324
                  have HR324_0 := Aside0.mk hi324_0
                  have HC324_0 := Aside0.mk hl324_0
                  clear hi324_0 hl324_0
                  replace p324 := eq_true p324
                  replace q324 := eq_true q324
                  go_wp2
                  go_loopg [10] k1 (fun kq v10 w' => ∃ (x10_2 : Int), v10 = .int .i64 x10_2 ∧ Aside0 (neonwrightlaw07_GateTwins.l1 kq t315 t323 t320 (wrap64 (x8_1 + ((rd_L4 t315 x9_1).length : Int))) x9_1 x10_2 a0_0 l0_1 l0_2 = some r) ∧ Aside0 (kq ≤ k1) ∧ Aside0 (Kd.S (Kd.slice 3 (Kd.int .i64)) 23 w' w.heap.size (fun k_ => some k_ ≠ (v321 : Value).ownBlock) (.slice (some ad324) t315.length co20) t315) ∧ Aside0 (Kd.R (Kd.int .i64) 3 w' w.heap.size (fun _ => True) v321 t320) ∧ Aside0 (w'.heap[gb312]? = some (.cells #[.int .i64 a0_0, (.slice A0_1 l0_1.length c0_1), (.slice A0_2 l0_2.length c0_2)] 25 (0, 0))) ∧ Aside0 (Kd.C (Kd.int .i64) w' A324_0 (rd_L4 t315 x9_1).length (rd_L4 t315 x9_1)) ∧ Aside0 (Below w.heap.size w w'))
                  case atStart => exact ⟨(0), (by first | rfl | (simp; done) | (simp [*]; done)), H', ⟨Nat.le_refl _⟩, ⟨by (with_reducible repeat (first | apply Kd.S_alloc | apply Kd.S_drewN | apply Kd.S_drew)); first | exact HO_5.out | exact Kd.R_mono HO_5.out (fun k_ h_ => ne_own_len h_)⟩, ⟨by (with_reducible repeat (first | apply Kd.R_alloc | apply Kd.R_drewN | apply Kd.R_drew)); first | exact HO_7.out | exact Kd.R_mono HO_7.out (fun k_ h_ => ne_own_len h_)⟩, ⟨by (with_reducible repeat (first | refine blk_drewN ?_ _ | refine blk_drew ?_ | refine blk_alloc ?_ _)); exact BK312.out⟩, ⟨by repeat (first | (with_reducible exact HR324_0.out) | (with_reducible refine Kd.C_alloc ?_ _) | (with_reducible refine Kd.C_drewN ?_ _) | (with_reducible refine Kd.C_drew ?_) | exact HR324_0.out)⟩, ⟨by repeat (first | (with_reducible first | exact HB.out | apply below_alloc | apply pw_below_drewN | apply below_drew1 | refine below_set ?_ GE312.out) | exact HB.out)⟩⟩
                  case round =>
                    clear H'
                    try clear c1
                    try clear c2
                    try clear p2
                    try clear c3
                    try clear p3
                    try clear q3
                    try clear hx3
                    try clear c4
                    try clear c5
                    try clear c6
                    try clear c6b0
                    try clear c6b1
                    try clear p6
                    try clear c7
                    try clear c7b0
                    try clear c7b1
                    try clear c9
                    try clear c9b0
                    try clear c9b1
                    try clear c15
                    try clear c18
                    try clear c18b0
                    try clear c19
                    try clear c19b0
                    try clear hcz12_0
                    try clear hcz12_1
                    try clear hcz12_2
                    try clear hcz14_0
                    try clear hcz14_1
                    try clear hcz14_2
                    try clear hfz12_0
                    try clear hfz12_1
                    try clear hfz12_2
                    try clear hfz14_0
                    try clear hfz14_1
                    try clear hfz14_2
                    try clear hx324_0
                    try clear p2
                    try clear p324
                    try clear p6
                    try clear q324
                    obtain ⟨x10_2, rfl, HA, HK2, HO_5, HO_7, BK312, HR324_0, HB⟩ := hrel
                    cases gk with
                    | zero => exact absurd HA.out (by simp [neonwrightlaw07_GateTwins.l1])
                    | succ k2 =>
                      have H := HA.out
                      clear HA
                      simp only [neonwrightlaw07_GateTwins.l1] at H
                      by_cases c21 : 0 ≤ x9_1
                      · rw [if_pos c21] at H
                        have c21b0 : decide (0 ≤ x9_1) = true := decide_eq_true c21
                        clear c21
                        by_cases c22 : x9_1 < (t315.length : Int)
                        · rw [if_pos c22] at H
                          have c22b0 : decide (x9_1 < (t315.length : Int)) = true := decide_eq_true c22
                          clear c22
                          by_cases c23 : x10_2 < ((rd_L4 t315 x9_1).length : Int)
                          · rw [if_pos c23] at H
                            have c23b0 : decide (x10_2 < ((rd_L4 t315 x9_1).length : Int)) = true := decide_eq_true c23
                            clear c23
                            by_cases c24 : 0 ≤ x10_2
                            · rw [if_pos c24] at H
                              have c24b0 : decide (0 ≤ x10_2) = true := decide_eq_true c24
                              clear c24
                              replace H := Option.bind_eq_some_iff.mp H
                              obtain ⟨t328, A250, H⟩ := H
                              replace H : (if 0 < ((rd_L4 t315 x9_1).length : Int) then ((neonwrightlaw07_has.f k2 t320 (rd (rd_L4 t315 x9_1) 0)).bind fun t331 => (if (t328 != t331) = true then (some false) else (neonwrightlaw07_GateTwins.l1 k2 t315 t323 t320 (wrap64 (x8_1 + ((rd_L4 t315 x9_1).length : Int))) x9_1 (wrap64 (x10_2 + 1)) a0_0 l0_1 l0_2))) else (none)) = some r := H
                              have A25 := Aside0.mk A250
                              clear A250
                              by_cases c26 : 0 < ((rd_L4 t315 x9_1).length : Int)
                              · rw [if_pos c26] at H
                                have c26b0 : decide (0 < ((rd_L4 t315 x9_1).length : Int)) = true := decide_eq_true c26
                                have c26b1 : decide (0 < (rd_L4 t315 x9_1).length) = true := decide_eq_true (by omega)
                                clear c26
                                replace H := Option.bind_eq_some_iff.mp H
                                obtain ⟨t331, A270, H⟩ := H
                                replace H : (if (t328 != t331) = true then (some false) else (neonwrightlaw07_GateTwins.l1 k2 t315 t323 t320 (wrap64 (x8_1 + ((rd_L4 t315 x9_1).length : Int))) x9_1 (wrap64 (x10_2 + 1)) a0_0 l0_1 l0_2)) = some r := H
                                have A27 := Aside0.mk A270
                                clear A270
                                by_cases c28 : (t328 != t331) = true
                                · rw [if_pos c28] at H
                                  have c28b0 : (t328 != t331) = true := c28
                                  (try (have c28b1 : decide (t328 = t331) = false := by simpa using c28))
                                  (try (have c28b2 : (t328 == t331) = false := by simpa using c28))
                                  (try (have c28b3 : ¬ (t328 = t331) := by simpa using c28))
                                  clear c28
                                  obtain rfl := Option.some.inj H
                                  have p325 : 0 ≤ (x9_1 : Int) := of_decide_eq_true (by first | (with_reducible assumption) | assumption)
                                  have q325 : x9_1 < (t315.length : Int) := of_decide_eq_true (by first | (with_reducible assumption) | assumption)
                                  obtain ⟨ad325, A325_0, c325_0, e325, hx325_0, hl325_0, hi325_0⟩ := at_L4 (Kd.S_reads' HO_5.out).2.2 x9_1 p325 q325
                                  obtain rfl : ad324 = ad325 := (by injection e325)
                                  obtain ⟨ce325, hce325, hMe325, hcc325⟩ := Kd.S_get HO_5.out [] x9_1 p325 (by first | exact q325 | exact of_decide_eq_true (by first | (with_reducible assumption) | assumption) | (have e_ := (Kd.S_reads' HO_5.out).1; omega))
                                  obtain ⟨ve325_0, rfl, ge325_0⟩ := hMe325
                                  have hv325_0 := hcc325 0 _ rfl
                                  rw [Nat.add_zero, show ((Kd.slice 3 (Kd.int .i64))).sz = 1 from rfl, Nat.mul_one] at hv325_0
                                  replace hv325_0 := Option.some.inj (hv325_0.symm.trans hx325_0)
                                  rw [hv325_0] at ge325_0
                                  have HL325_0 := Aside0.mk (show Kd.R (Kd.int .i64) 3 _ _ _ _ (rd_L4 t315 x9_1) from ge325_0)
                                  clear hv325_0 ge325_0
                                  clear hcc325 hce325
                                  have HR325_0 := Aside0.mk hi325_0
                                  have HC325_0 := Aside0.mk hl325_0
                                  clear hi325_0 hl325_0
                                  replace p325 := eq_true p325
                                  replace q325 := eq_true q325
                                  try go_wp2
                                  have n0_ := Aside0.mk (Kd.S_drew HO_5.out)
                                  have n1_ := Aside0.mk (Kd.R_drew HO_7.out)
                                  have n2_ := Aside0.mk (Kd.R_drew HL325_0.out)
                                  have n3_ := Aside0.mk (blk_drew BK312.out)
                                  have n4_ := Aside0.mk (Kd.C_drew HR324_0.out)
                                  have n5_ := Aside0.mk (Kd.C_drew HR325_0.out)
                                  have n6_ := Aside0.mk (below_drew1 HB.out)
                                  clear HO_5
                                  clear HO_7
                                  clear HL325_0
                                  clear BK312
                                  clear HR324_0
                                  clear HR325_0
                                  clear HB
                                  have HO_5 := n0_
                                  have HO_7 := n1_
                                  have HL325_0 := n2_
                                  have BK312 := n3_
                                  have HR324_0 := n4_
                                  have HR325_0 := n5_
                                  have HB := n6_
                                  clear n0_ n1_ n2_ n3_ n4_ n5_ n6_
                                  have p326 : 0 ≤ (x9_1 : Int) := of_decide_eq_true (by first | (with_reducible assumption) | assumption)
                                  have q326 : x9_1 < (t315.length : Int) := of_decide_eq_true (by first | (with_reducible assumption) | assumption)
                                  obtain ⟨ad326, A326_0, c326_0, e326, hx326_0, hl326_0, hi326_0⟩ := at_L4 (Kd.S_reads' HO_5.out).2.2 x9_1 p326 q326
                                  obtain rfl : ad324 = ad326 := (by injection e326)
                                  obtain ⟨ce326, hce326, hMe326, hcc326⟩ := Kd.S_get HO_5.out [] x9_1 p326 (by first | exact q326 | exact of_decide_eq_true (by first | (with_reducible assumption) | assumption) | (have e_ := (Kd.S_reads' HO_5.out).1; omega))
                                  obtain ⟨ve326_0, rfl, ge326_0⟩ := hMe326
                                  have hv326_0 := hcc326 0 _ rfl
                                  rw [Nat.add_zero, show ((Kd.slice 3 (Kd.int .i64))).sz = 1 from rfl, Nat.mul_one] at hv326_0
                                  replace hv326_0 := Option.some.inj (hv326_0.symm.trans hx326_0)
                                  rw [hv326_0] at ge326_0
                                  have HL326_0 := Aside0.mk (show Kd.R (Kd.int .i64) 3 _ _ _ _ (rd_L4 t315 x9_1) from ge326_0)
                                  clear hv326_0 ge326_0
                                  clear hcc326 hce326
                                  have HR326_0 := Aside0.mk hi326_0
                                  have HC326_0 := Aside0.mk hl326_0
                                  clear hi326_0 hl326_0
                                  replace p326 := eq_true p326
                                  replace q326 := eq_true q326
                                  have p327 : 0 ≤ (x10_2 : Int) := of_decide_eq_true (by first | (with_reducible assumption) | assumption)
                                  have q327 : x10_2 < ((rd_L4 t315 x9_1).length : Int) := of_decide_eq_true (by first | (with_reducible assumption) | assumption)
                                  obtain ⟨ad327, e327, hx327_0⟩ := Kd.at_int (by repeat (first | (with_reducible exact HR326_0.out) | (with_reducible refine Kd.C_alloc ?_ _) | (with_reducible refine Kd.C_drewN ?_ _) | (with_reducible refine Kd.C_drew ?_) | exact HR326_0.out)) x10_2 p327 q327
                                  cases e327
                                  replace p327 := eq_true p327
                                  replace q327 := eq_true q327
                                  have p329 : 0 ≤ (x9_1 : Int) := of_decide_eq_true (by first | (with_reducible assumption) | assumption)
                                  have q329 : x9_1 < (t315.length : Int) := of_decide_eq_true (by first | (with_reducible assumption) | assumption)
                                  obtain ⟨ad329, A329_0, c329_0, e329, hx329_0, hl329_0, hi329_0⟩ := at_L4 (Kd.S_reads' HO_5.out).2.2 x9_1 p329 q329
                                  obtain rfl : ad324 = ad329 := (by injection e329)
                                  obtain ⟨ce329, hce329, hMe329, hcc329⟩ := Kd.S_get HO_5.out [] x9_1 p329 (by first | exact q329 | exact of_decide_eq_true (by first | (with_reducible assumption) | assumption) | (have e_ := (Kd.S_reads' HO_5.out).1; omega))
                                  obtain ⟨ve329_0, rfl, ge329_0⟩ := hMe329
                                  have hv329_0 := hcc329 0 _ rfl
                                  rw [Nat.add_zero, show ((Kd.slice 3 (Kd.int .i64))).sz = 1 from rfl, Nat.mul_one] at hv329_0
                                  replace hv329_0 := Option.some.inj (hv329_0.symm.trans hx329_0)
                                  rw [hv329_0] at ge329_0
                                  have HL329_0 := Aside0.mk (show Kd.R (Kd.int .i64) 3 _ _ _ _ (rd_L4 t315 x9_1) from ge329_0)
                                  clear hv329_0 ge329_0
                                  clear hcc329 hce329
                                  have HR329_0 := Aside0.mk hi329_0
                                  have HC329_0 := Aside0.mk hl329_0
                                  clear hi329_0 hl329_0
                                  replace p329 := eq_true p329
                                  replace q329 := eq_true q329
                                  have ea_ := Option.some.inj (hx326_0.symm.trans hx329_0)
                                  injection ea_ with ea_ en_ ec_
                                  subst ea_
                                  subst ec_
                                  clear en_
                                  have p330 : 0 ≤ (0 : Int) := (by omega)
                                  have q330 : 0 < ((rd_L4 t315 x9_1).length : Int) := of_decide_eq_true (by first | (with_reducible assumption) | assumption)
                                  obtain ⟨ad330, e330, hx330_0⟩ := Kd.at_int (by repeat (first | (with_reducible exact HR329_0.out) | (with_reducible refine Kd.C_alloc ?_ _) | (with_reducible refine Kd.C_drewN ?_ _) | (with_reducible refine Kd.C_drew ?_) | exact HR329_0.out)) 0 p330 q330
                                  cases e330
                                  have qi330 : (0 < (rd_L4 t315 x9_1).length) = True := eq_true (by omega)
                                  (try rw [show ((0 : Int)).toNat = 0 from rfl] at hx330_0)
                                  (try rw [Addr.add_zero'] at hx330_0)
                                  replace p330 := eq_true p330
                                  replace q330 := eq_true q330
                                  obtain ⟨Ao30, co30, eo30⟩ := Kd.R_slice HO_7.out
                                  (first | subst eo30 | (injection eo30 with f1_ f2_ f3_; have f4_ := f1_.symm; have f5_ := f3_.symm; clear f1_ f2_ f3_; subst f4_; subst f5_))
                                  refine start_ (n := 18) (S := fun w' => w'.cell? (ad324.add (x9_1).toNat) = some (.slice (some ad327) (rd_L4 t315 x9_1).length c326_0) ∧ w'.cell? (ad327.add (x10_2).toNat) = some (.int .i64 (rd (rd_L4 t315 x9_1) x10_2)) ∧ w'.cell? (ad324.add (x9_1).toNat) = some (.slice (some ad327) (rd_L4 t315 x9_1).length c326_0) ∧ w'.cell? ad327 = some (.int .i64 (rd (rd_L4 t315 x9_1) 0))) (ds := []) #[false, false, false, false, false, false, false, false, false, false, false, false, false, false, false, false, false, false] (by kernel_rfl) rfl rfl ⟨hx326_0, hx327_0, hx329_0, hx330_0⟩ (fun hHeld => ?_); refine with_tabW neonwrightlaw07_GateTwins.tab15 neonwrightlaw07_GateTwins.bits15 (fun HT_ HW_ => ?_)
                                  generalize wr.drew = w29 at HO_5 HO_7 HL325_0 BK312 HR324_0 HR325_0 HB HL326_0 HL329_0 HR326_0 HR329_0 hx326_0 hx327_0 hx329_0 hx330_0 hHeld ⊢
                                  refine pure_ (i := 0) (N := some 72) (v := ?_) (a' := ?_) #[true, false, false, false, false, false, false, false, false, false, false, false, false, false, false, false, false, false] rfl rfl (any_of HT_.out (by kernel_rfl)) (fun _ _ _ h => h) (Or.inl ⟨by rfl, ?_⟩) ?_ ?_
                                  rotate_left
                                  · intro w'
                                    go_simp
                                    with_reducible rfl
                                  rotate_left
                                  · simp only [Act.put, List.setIfInBounds_toArray, List.set_cons_zero, List.set_cons_succ, i64_w, i32_w]
                                    rfl
                                  refine pure_ (i := 1) (N := some 73) (v := ?_) (a' := ?_) #[true, true, false, false, false, false, false, false, false, false, false, false, false, false, false, false, false, false] rfl rfl (any_of HT_.out (by kernel_rfl)) (fun _ _ _ h => h) (Or.inl ⟨by rfl, ?_⟩) ?_ ?_
                                  rotate_left
                                  · intro w'
                                    go_simp
                                    with_reducible rfl
                                  rotate_left
                                  · simp only [Act.put, List.setIfInBounds_toArray, List.set_cons_zero, List.set_cons_succ, i64_w, i32_w]
                                    rfl
                                  refine pure_ (i := 2) (N := some 74) (v := ?_) (a' := ?_) #[true, true, true, false, false, false, false, false, false, false, false, false, false, false, false, false, false, false] rfl rfl (any_of HT_.out (by kernel_rfl)) (fun _ _ _ h => h) (Or.inl ⟨by rfl, ?_⟩) ?_ ?_
                                  rotate_left
                                  · intro w'
                                    go_simp
                                    with_reducible rfl
                                  rotate_left
                                  · simp only [Act.put, List.setIfInBounds_toArray, List.set_cons_zero, List.set_cons_succ, i64_w, i32_w]
                                    rfl
                                  refine pure_ (i := 3) (N := some 75) (v := ?_) (a' := ?_) #[true, true, true, true, false, false, false, false, false, false, false, false, false, false, false, false, false, false] rfl rfl (any_of HT_.out (by kernel_rfl)) (fun _ _ _ h => h) (Or.inl ⟨by rfl, ?_⟩) ?_ ?_
                                  rotate_left
                                  · intro w'
                                    go_simp
                                    with_reducible rfl
                                  rotate_left
                                  · simp only [Act.put, List.setIfInBounds_toArray, List.set_cons_zero, List.set_cons_succ, i64_w, i32_w]
                                    rfl
                                  refine pure_ (i := 5) (N := some 77) (v := ?_) (a' := ?_) #[true, true, true, true, false, true, false, false, false, false, false, false, false, false, false, false, false, false] rfl rfl (any_of HT_.out (by kernel_rfl)) (fun _ _ _ h => h) (Or.inl ⟨by rfl, ?_⟩) ?_ ?_
                                  rotate_left
                                  · intro w'
                                    go_simp
                                    with_reducible rfl
                                  rotate_left
                                  · simp only [Act.put, List.setIfInBounds_toArray, List.set_cons_zero, List.set_cons_succ, i64_w, i32_w]
                                    rfl
                                  refine pure_ (i := 9) (N := some 81) (v := ?_) (a' := ?_) #[true, true, true, true, false, true, false, false, false, true, false, false, false, false, false, false, false, false] rfl rfl (any_of HT_.out (by kernel_rfl)) (fun _ _ _ h => h) (Or.inl ⟨by rfl, ?_⟩) ?_ ?_
                                  rotate_left
                                  · intro w'
                                    go_simp
                                    with_reducible rfl
                                  rotate_left
                                  · simp only [Act.put, List.setIfInBounds_toArray, List.set_cons_zero, List.set_cons_succ, i64_w, i32_w]
                                    rfl
                                  refine pure_ (i := 10) (N := some 82) (v := ?_) (a' := ?_) #[true, true, true, true, false, true, false, false, false, true, true, false, false, false, false, false, false, false] rfl rfl (any_of HT_.out (by kernel_rfl)) (fun _ _ _ h => h) (Or.inl ⟨by rfl, ?_⟩) ?_ ?_
                                  rotate_left
                                  · intro w'
                                    go_simp
                                    with_reducible rfl
                                  rotate_left
                                  · simp only [Act.put, List.setIfInBounds_toArray, List.set_cons_zero, List.set_cons_succ, i64_w, i32_w]
                                    rfl
                                  refine pure_ (i := 11) (N := some 83) (v := ?_) (a' := ?_) #[true, true, true, true, false, true, false, false, false, true, true, true, false, false, false, false, false, false] rfl rfl (any_of HT_.out (by kernel_rfl)) (fun _ _ _ h => h) (Or.inl ⟨by rfl, ?_⟩) ?_ ?_
                                  rotate_left
                                  · intro w'
                                    go_simp
                                    with_reducible rfl
                                  rotate_left
                                  · simp only [Act.put, List.setIfInBounds_toArray, List.set_cons_zero, List.set_cons_succ, i64_w, i32_w]
                                    rfl
                                  refine pure_ (i := 12) (N := some 84) (v := ?_) (a' := ?_) #[true, true, true, true, false, true, false, false, false, true, true, true, true, false, false, false, false, false] rfl rfl (any_of HT_.out (by kernel_rfl)) (fun _ _ _ h => h) (Or.inl ⟨by rfl, ?_⟩) ?_ ?_
                                  rotate_left
                                  · intro w'
                                    go_simp
                                    with_reducible rfl
                                  rotate_left
                                  · simp only [Act.put, List.setIfInBounds_toArray, List.set_cons_zero, List.set_cons_succ, i64_w, i32_w]
                                    rfl
                                  refine take_ (i := 4) (N := some 76) (v := ?_) (a' := ?_) #[true, true, true, true, true, true, false, false, false, true, true, true, true, false, false, false, false, false] rfl rfl (take_ofW HT_.out HW_.out (by kernel_rfl)) (fun _ _ _ h => h) (Or.inl ⟨by rfl, ?_⟩) hHeld ?_ ?_
                                  rotate_left
                                  · rintro w' ⟨s0, s1, s2, s3⟩
                                    (try simp only [add_plain] at s0)
                                    (try simp only [add_plain] at s1)
                                    (try simp only [add_plain] at s2)
                                    (try simp only [add_plain] at s3)
                                    go_simp
                                    with_reducible rfl
                                  rotate_left
                                  · simp only [Act.put, List.setIfInBounds_toArray, List.set_cons_zero, List.set_cons_succ, i64_w, i32_w]
                                    rfl
                                  refine pure_ (i := 6) (N := some 78) (v := ?_) (a' := ?_) #[true, true, true, true, true, true, true, false, false, true, true, true, true, false, false, false, false, false] rfl rfl (any_of HT_.out (by kernel_rfl)) (fun _ _ _ h => h) (Or.inl ⟨by rfl, ?_⟩) ?_ ?_
                                  rotate_left
                                  · intro w'
                                    go_simp
                                    with_reducible rfl
                                  rotate_left
                                  · simp only [Act.put, List.setIfInBounds_toArray, List.set_cons_zero, List.set_cons_succ, i64_w, i32_w]
                                    rfl
                                  refine take_ (i := 7) (N := some 79) (v := ?_) (a' := ?_) #[true, true, true, true, true, true, true, true, false, true, true, true, true, false, false, false, false, false] rfl rfl (take_ofW HT_.out HW_.out (by kernel_rfl)) (fun _ _ _ h => h) (Or.inl ⟨by rfl, ?_⟩) hHeld ?_ ?_
                                  rotate_left
                                  · rintro w' ⟨s0, s1, s2, s3⟩
                                    (try simp only [add_plain] at s0)
                                    (try simp only [add_plain] at s1)
                                    (try simp only [add_plain] at s2)
                                    (try simp only [add_plain] at s3)
                                    go_simp
                                    with_reducible rfl
                                  rotate_left
                                  · simp only [Act.put, List.setIfInBounds_toArray, List.set_cons_zero, List.set_cons_succ, i64_w, i32_w]
                                    rfl
                                  refine take_ (i := 13) (N := some 85) (v := ?_) (a' := ?_) #[true, true, true, true, true, true, true, true, false, true, true, true, true, true, false, false, false, false] rfl rfl (take_ofW HT_.out HW_.out (by kernel_rfl)) (fun _ _ _ h => h) (Or.inl ⟨by rfl, ?_⟩) hHeld ?_ ?_
                                  rotate_left
                                  · rintro w' ⟨s0, s1, s2, s3⟩
                                    (try simp only [add_plain] at s0)
                                    (try simp only [add_plain] at s1)
                                    (try simp only [add_plain] at s2)
                                    (try simp only [add_plain] at s3)
                                    go_simp
                                    with_reducible rfl
                                  rotate_left
                                  · simp only [Act.put, List.setIfInBounds_toArray, List.set_cons_zero, List.set_cons_succ, i64_w, i32_w]
                                    rfl
                                  refine pure_ (i := 14) (N := some 86) (v := ?_) (a' := ?_) #[true, true, true, true, true, true, true, true, false, true, true, true, true, true, true, false, false, false] rfl rfl (any_of HT_.out (by kernel_rfl)) (fun _ _ _ h => h) (Or.inl ⟨by rfl, ?_⟩) ?_ ?_
                                  rotate_left
                                  · intro w'
                                    go_simp
                                    with_reducible rfl
                                  rotate_left
                                  · simp only [Act.put, List.setIfInBounds_toArray, List.set_cons_zero, List.set_cons_succ, i64_w, i32_w]
                                    rfl
                                  refine take_ (i := 15) (N := some 87) (v := ?_) (a' := ?_) #[true, true, true, true, true, true, true, true, false, true, true, true, true, true, true, true, false, false] rfl rfl (take_ofW HT_.out HW_.out (by kernel_rfl)) (fun _ _ _ h => h) (Or.inl ⟨by rfl, ?_⟩) hHeld ?_ ?_
                                  rotate_left
                                  · rintro w' ⟨s0, s1, s2, s3⟩
                                    (try simp only [add_plain] at s0)
                                    (try simp only [add_plain] at s1)
                                    (try simp only [add_plain] at s2)
                                    (try simp only [add_plain] at s3)
                                    go_simp
                                    with_reducible rfl
                                  rotate_left
                                  · simp only [Act.put, List.setIfInBounds_toArray, List.set_cons_zero, List.set_cons_succ, i64_w, i32_w]
                                    rfl
                                  refine one_ (i := 8) (N := some 80) #[true, true, true, true, true, true, true, true, true, true, true, true, true, true, true, true, false, false] rfl rfl (one_of HT_.out (by kernel_rfl)) (by decide) (fun K hK => ?_)
                                  refine goes_ Try.func26 (by kernel_rfl) rfl #[.slice Ao30 t320.length co30, .int .i64 (rd (rd_L4 t315 x9_1) x10_2)] (by rfl) rfl rfl (by (try simp only [List.map_toArray, List.map_cons, List.map_nil]); first | done | rfl | (simp only [List.length_drop, List.length_take]; rfl)) ?_
                                  with_reducible refine (neonwrightlaw07_has.calls k2 _ _ t320 (rd (rd_L4 t315 x9_1) x10_2) t328 _ ?side1 ?side2 A25.out).mono ?_
                                  (case side1 => repeat (first | exact (Kd.R_reads' HO_7.out).2.2 | (with_reducible refine Kd.C_alloc ?_ _) | (with_reducible refine Kd.C_drewN ?_ _) | (with_reducible refine Kd.C_drew ?_)))
                                  (case side2 => exact (Kd.R_reads' HO_7.out).2.1)
                                  rintro e w' ⟨rfl, ⟨nd, rfl⟩⟩
                                  refine ⟨_, rfl, ?_⟩
                                  refine hK.out _ _ ⟨hHeld.1, hHeld.2.1, hHeld.2.2.1, hHeld.2.2.2⟩ (fun hHeld => ?_)
                                  clear hK K
                                  refine norm_ (a' := ?_) ?_ ?_
                                  rotate_left
                                  · show Act.put _ (some 80) _ = _
                                    simp only [Act.put, List.setIfInBounds_toArray, List.set_cons_zero, List.set_cons_succ, i64_w, i32_w]
                                    rfl
                                  refine one_ (i := 16) (N := some 88) #[true, true, true, true, true, true, true, true, true, true, true, true, true, true, true, true, true, false] rfl rfl (one_of HT_.out (by kernel_rfl)) (by decide) (fun K hK => ?_)
                                  refine goes_ Try.func26 (by kernel_rfl) rfl #[.slice Ao30 t320.length co30, .int .i64 (rd (rd_L4 t315 x9_1) 0)] (by rfl) rfl rfl (by (try simp only [List.map_toArray, List.map_cons, List.map_nil]); first | done | rfl | (simp only [List.length_drop, List.length_take]; rfl)) ?_
                                  with_reducible refine (neonwrightlaw07_has.calls k2 _ _ t320 (rd (rd_L4 t315 x9_1) 0) t331 _ ?side1 ?side2 A27.out).mono ?_
                                  (case side1 => repeat (first | exact (Kd.R_reads' HO_7.out).2.2 | (with_reducible refine Kd.C_alloc ?_ _) | (with_reducible refine Kd.C_drewN ?_ _) | (with_reducible refine Kd.C_drew ?_)))
                                  (case side2 => exact (Kd.R_reads' HO_7.out).2.1)
                                  rintro e w' ⟨rfl, ⟨nd, rfl⟩⟩
                                  refine ⟨_, rfl, ?_⟩
                                  refine hK.out _ _ ⟨hHeld.1, hHeld.2.1, hHeld.2.2.1, hHeld.2.2.2⟩ (fun hHeld => ?_)
                                  clear hK K
                                  refine norm_ (a' := ?_) ?_ ?_
                                  rotate_left
                                  · show Act.put _ (some 88) _ = _
                                    simp only [Act.put, List.setIfInBounds_toArray, List.set_cons_zero, List.set_cons_succ, i64_w, i32_w]
                                    rfl
                                  refine pure_ (i := 17) (N := some 89) (v := ?_) (a' := ?_) #[true, true, true, true, true, true, true, true, true, true, true, true, true, true, true, true, true, true] rfl rfl (any_of HT_.out (by kernel_rfl)) (fun _ _ _ h => h) (Or.inl ⟨by rfl, ?_⟩) ?_ ?_
                                  rotate_left
                                  · intro w'
                                    go_simp
                                    with_reducible rfl
                                  rotate_left
                                  · simp only [Act.put, List.setIfInBounds_toArray, List.set_cons_zero, List.set_cons_succ, i64_w, i32_w]
                                    rfl
                                  refine done_ (done_of HT_.out (by kernel_rfl)) ?_
                                  try go_wp2
                                  go_ret
                                  exact ⟨by first | rfl | (simp [errW_none, errW_some] <;> rfl) | (simp only [← hji8]; first | rfl | (simp [errW_none, errW_some] <;> rfl)) | (simp [*, errW_none, errW_some] <;> rfl), by repeat (first | (with_reducible first | exact HB.out | apply below_alloc | apply pw_below_drewN | apply below_drew1 | refine below_set ?_ GE312.out) | exact HB.out)⟩
                                · rw [if_neg c28] at H
                                  have c28b0 : (t328 != t331) = false := by simpa using c28
                                  (try (have c28b1 : decide (t328 = t331) = true := by simpa using c28))
                                  (try (have c28b2 : (t328 == t331) = true := by simpa using c28))
                                  clear c28
                                  have H' := Aside0.mk H
                                  clear H
                                  have p325 : 0 ≤ (x9_1 : Int) := of_decide_eq_true (by first | (with_reducible assumption) | assumption)
                                  have q325 : x9_1 < (t315.length : Int) := of_decide_eq_true (by first | (with_reducible assumption) | assumption)
                                  obtain ⟨ad325, A325_0, c325_0, e325, hx325_0, hl325_0, hi325_0⟩ := at_L4 (Kd.S_reads' HO_5.out).2.2 x9_1 p325 q325
                                  obtain rfl : ad324 = ad325 := (by injection e325)
                                  obtain ⟨ce325, hce325, hMe325, hcc325⟩ := Kd.S_get HO_5.out [] x9_1 p325 (by first | exact q325 | exact of_decide_eq_true (by first | (with_reducible assumption) | assumption) | (have e_ := (Kd.S_reads' HO_5.out).1; omega))
                                  obtain ⟨ve325_0, rfl, ge325_0⟩ := hMe325
                                  have hv325_0 := hcc325 0 _ rfl
                                  rw [Nat.add_zero, show ((Kd.slice 3 (Kd.int .i64))).sz = 1 from rfl, Nat.mul_one] at hv325_0
                                  replace hv325_0 := Option.some.inj (hv325_0.symm.trans hx325_0)
                                  rw [hv325_0] at ge325_0
                                  have HL325_0 := Aside0.mk (show Kd.R (Kd.int .i64) 3 _ _ _ _ (rd_L4 t315 x9_1) from ge325_0)
                                  clear hv325_0 ge325_0
                                  clear hcc325 hce325
                                  have HR325_0 := Aside0.mk hi325_0
                                  have HC325_0 := Aside0.mk hl325_0
                                  clear hi325_0 hl325_0
                                  replace p325 := eq_true p325
                                  replace q325 := eq_true q325
                                  try go_wp2
                                  have n0_ := Aside0.mk (Kd.S_drew HO_5.out)
                                  have n1_ := Aside0.mk (Kd.R_drew HO_7.out)
                                  have n2_ := Aside0.mk (Kd.R_drew HL325_0.out)
                                  have n3_ := Aside0.mk (blk_drew BK312.out)
                                  have n4_ := Aside0.mk (Kd.C_drew HR324_0.out)
                                  have n5_ := Aside0.mk (Kd.C_drew HR325_0.out)
                                  have n6_ := Aside0.mk (below_drew1 HB.out)
                                  clear HO_5
                                  clear HO_7
                                  clear HL325_0
                                  clear BK312
                                  clear HR324_0
                                  clear HR325_0
                                  clear HB
                                  have HO_5 := n0_
                                  have HO_7 := n1_
                                  have HL325_0 := n2_
                                  have BK312 := n3_
                                  have HR324_0 := n4_
                                  have HR325_0 := n5_
                                  have HB := n6_
                                  clear n0_ n1_ n2_ n3_ n4_ n5_ n6_
                                  have p326 : 0 ≤ (x9_1 : Int) := of_decide_eq_true (by first | (with_reducible assumption) | assumption)
                                  have q326 : x9_1 < (t315.length : Int) := of_decide_eq_true (by first | (with_reducible assumption) | assumption)
                                  obtain ⟨ad326, A326_0, c326_0, e326, hx326_0, hl326_0, hi326_0⟩ := at_L4 (Kd.S_reads' HO_5.out).2.2 x9_1 p326 q326
                                  obtain rfl : ad324 = ad326 := (by injection e326)
                                  obtain ⟨ce326, hce326, hMe326, hcc326⟩ := Kd.S_get HO_5.out [] x9_1 p326 (by first | exact q326 | exact of_decide_eq_true (by first | (with_reducible assumption) | assumption) | (have e_ := (Kd.S_reads' HO_5.out).1; omega))
                                  obtain ⟨ve326_0, rfl, ge326_0⟩ := hMe326
                                  have hv326_0 := hcc326 0 _ rfl
                                  rw [Nat.add_zero, show ((Kd.slice 3 (Kd.int .i64))).sz = 1 from rfl, Nat.mul_one] at hv326_0
                                  replace hv326_0 := Option.some.inj (hv326_0.symm.trans hx326_0)
                                  rw [hv326_0] at ge326_0
                                  have HL326_0 := Aside0.mk (show Kd.R (Kd.int .i64) 3 _ _ _ _ (rd_L4 t315 x9_1) from ge326_0)
                                  clear hv326_0 ge326_0
                                  clear hcc326 hce326
                                  have HR326_0 := Aside0.mk hi326_0
                                  have HC326_0 := Aside0.mk hl326_0
                                  clear hi326_0 hl326_0
                                  replace p326 := eq_true p326
                                  replace q326 := eq_true q326
                                  have p327 : 0 ≤ (x10_2 : Int) := of_decide_eq_true (by first | (with_reducible assumption) | assumption)
                                  have q327 : x10_2 < ((rd_L4 t315 x9_1).length : Int) := of_decide_eq_true (by first | (with_reducible assumption) | assumption)
                                  obtain ⟨ad327, e327, hx327_0⟩ := Kd.at_int (by repeat (first | (with_reducible exact HR326_0.out) | (with_reducible refine Kd.C_alloc ?_ _) | (with_reducible refine Kd.C_drewN ?_ _) | (with_reducible refine Kd.C_drew ?_) | exact HR326_0.out)) x10_2 p327 q327
                                  cases e327
                                  replace p327 := eq_true p327
                                  replace q327 := eq_true q327
                                  have p329 : 0 ≤ (x9_1 : Int) := of_decide_eq_true (by first | (with_reducible assumption) | assumption)
                                  have q329 : x9_1 < (t315.length : Int) := of_decide_eq_true (by first | (with_reducible assumption) | assumption)
                                  obtain ⟨ad329, A329_0, c329_0, e329, hx329_0, hl329_0, hi329_0⟩ := at_L4 (Kd.S_reads' HO_5.out).2.2 x9_1 p329 q329
                                  obtain rfl : ad324 = ad329 := (by injection e329)
                                  obtain ⟨ce329, hce329, hMe329, hcc329⟩ := Kd.S_get HO_5.out [] x9_1 p329 (by first | exact q329 | exact of_decide_eq_true (by first | (with_reducible assumption) | assumption) | (have e_ := (Kd.S_reads' HO_5.out).1; omega))
                                  obtain ⟨ve329_0, rfl, ge329_0⟩ := hMe329
                                  have hv329_0 := hcc329 0 _ rfl
                                  rw [Nat.add_zero, show ((Kd.slice 3 (Kd.int .i64))).sz = 1 from rfl, Nat.mul_one] at hv329_0
                                  replace hv329_0 := Option.some.inj (hv329_0.symm.trans hx329_0)
                                  rw [hv329_0] at ge329_0
                                  have HL329_0 := Aside0.mk (show Kd.R (Kd.int .i64) 3 _ _ _ _ (rd_L4 t315 x9_1) from ge329_0)
                                  clear hv329_0 ge329_0
                                  clear hcc329 hce329
                                  have HR329_0 := Aside0.mk hi329_0
                                  have HC329_0 := Aside0.mk hl329_0
                                  clear hi329_0 hl329_0
                                  replace p329 := eq_true p329
                                  replace q329 := eq_true q329
                                  have ea_ := Option.some.inj (hx326_0.symm.trans hx329_0)
                                  injection ea_ with ea_ en_ ec_
                                  subst ea_
                                  subst ec_
                                  clear en_
                                  have p330 : 0 ≤ (0 : Int) := (by omega)
                                  have q330 : 0 < ((rd_L4 t315 x9_1).length : Int) := of_decide_eq_true (by first | (with_reducible assumption) | assumption)
                                  obtain ⟨ad330, e330, hx330_0⟩ := Kd.at_int (by repeat (first | (with_reducible exact HR329_0.out) | (with_reducible refine Kd.C_alloc ?_ _) | (with_reducible refine Kd.C_drewN ?_ _) | (with_reducible refine Kd.C_drew ?_) | exact HR329_0.out)) 0 p330 q330
                                  cases e330
                                  have qi330 : (0 < (rd_L4 t315 x9_1).length) = True := eq_true (by omega)
                                  (try rw [show ((0 : Int)).toNat = 0 from rfl] at hx330_0)
                                  (try rw [Addr.add_zero'] at hx330_0)
                                  replace p330 := eq_true p330
                                  replace q330 := eq_true q330
                                  obtain ⟨Ao32, co32, eo32⟩ := Kd.R_slice HO_7.out
                                  (first | subst eo32 | (injection eo32 with f1_ f2_ f3_; have f4_ := f1_.symm; have f5_ := f3_.symm; clear f1_ f2_ f3_; subst f4_; subst f5_))
                                  refine start_ (n := 18) (S := fun w' => w'.cell? (ad324.add (x9_1).toNat) = some (.slice (some ad327) (rd_L4 t315 x9_1).length c326_0) ∧ w'.cell? (ad327.add (x10_2).toNat) = some (.int .i64 (rd (rd_L4 t315 x9_1) x10_2)) ∧ w'.cell? (ad324.add (x9_1).toNat) = some (.slice (some ad327) (rd_L4 t315 x9_1).length c326_0) ∧ w'.cell? ad327 = some (.int .i64 (rd (rd_L4 t315 x9_1) 0))) (ds := []) #[false, false, false, false, false, false, false, false, false, false, false, false, false, false, false, false, false, false] (by kernel_rfl) rfl rfl ⟨hx326_0, hx327_0, hx329_0, hx330_0⟩ (fun hHeld => ?_); refine with_tabW neonwrightlaw07_GateTwins.tab15 neonwrightlaw07_GateTwins.bits15 (fun HT_ HW_ => ?_)
                                  generalize wr.drew = w31 at HO_5 HO_7 HL325_0 BK312 HR324_0 HR325_0 HB HL326_0 HL329_0 HR326_0 HR329_0 hx326_0 hx327_0 hx329_0 hx330_0 hHeld ⊢
                                  refine pure_ (i := 0) (N := some 72) (v := ?_) (a' := ?_) #[true, false, false, false, false, false, false, false, false, false, false, false, false, false, false, false, false, false] rfl rfl (any_of HT_.out (by kernel_rfl)) (fun _ _ _ h => h) (Or.inl ⟨by rfl, ?_⟩) ?_ ?_
                                  rotate_left
                                  · intro w'
                                    go_simp
                                    with_reducible rfl
                                  rotate_left
                                  · simp only [Act.put, List.setIfInBounds_toArray, List.set_cons_zero, List.set_cons_succ, i64_w, i32_w]
                                    rfl
                                  refine pure_ (i := 1) (N := some 73) (v := ?_) (a' := ?_) #[true, true, false, false, false, false, false, false, false, false, false, false, false, false, false, false, false, false] rfl rfl (any_of HT_.out (by kernel_rfl)) (fun _ _ _ h => h) (Or.inl ⟨by rfl, ?_⟩) ?_ ?_
                                  rotate_left
                                  · intro w'
                                    go_simp
                                    with_reducible rfl
                                  rotate_left
                                  · simp only [Act.put, List.setIfInBounds_toArray, List.set_cons_zero, List.set_cons_succ, i64_w, i32_w]
                                    rfl
                                  refine pure_ (i := 2) (N := some 74) (v := ?_) (a' := ?_) #[true, true, true, false, false, false, false, false, false, false, false, false, false, false, false, false, false, false] rfl rfl (any_of HT_.out (by kernel_rfl)) (fun _ _ _ h => h) (Or.inl ⟨by rfl, ?_⟩) ?_ ?_
                                  rotate_left
                                  · intro w'
                                    go_simp
                                    with_reducible rfl
                                  rotate_left
                                  · simp only [Act.put, List.setIfInBounds_toArray, List.set_cons_zero, List.set_cons_succ, i64_w, i32_w]
                                    rfl
                                  refine pure_ (i := 3) (N := some 75) (v := ?_) (a' := ?_) #[true, true, true, true, false, false, false, false, false, false, false, false, false, false, false, false, false, false] rfl rfl (any_of HT_.out (by kernel_rfl)) (fun _ _ _ h => h) (Or.inl ⟨by rfl, ?_⟩) ?_ ?_
                                  rotate_left
                                  · intro w'
                                    go_simp
                                    with_reducible rfl
                                  rotate_left
                                  · simp only [Act.put, List.setIfInBounds_toArray, List.set_cons_zero, List.set_cons_succ, i64_w, i32_w]
                                    rfl
                                  refine pure_ (i := 5) (N := some 77) (v := ?_) (a' := ?_) #[true, true, true, true, false, true, false, false, false, false, false, false, false, false, false, false, false, false] rfl rfl (any_of HT_.out (by kernel_rfl)) (fun _ _ _ h => h) (Or.inl ⟨by rfl, ?_⟩) ?_ ?_
                                  rotate_left
                                  · intro w'
                                    go_simp
                                    with_reducible rfl
                                  rotate_left
                                  · simp only [Act.put, List.setIfInBounds_toArray, List.set_cons_zero, List.set_cons_succ, i64_w, i32_w]
                                    rfl
                                  refine pure_ (i := 9) (N := some 81) (v := ?_) (a' := ?_) #[true, true, true, true, false, true, false, false, false, true, false, false, false, false, false, false, false, false] rfl rfl (any_of HT_.out (by kernel_rfl)) (fun _ _ _ h => h) (Or.inl ⟨by rfl, ?_⟩) ?_ ?_
                                  rotate_left
                                  · intro w'
                                    go_simp
                                    with_reducible rfl
                                  rotate_left
                                  · simp only [Act.put, List.setIfInBounds_toArray, List.set_cons_zero, List.set_cons_succ, i64_w, i32_w]
                                    rfl
                                  refine pure_ (i := 10) (N := some 82) (v := ?_) (a' := ?_) #[true, true, true, true, false, true, false, false, false, true, true, false, false, false, false, false, false, false] rfl rfl (any_of HT_.out (by kernel_rfl)) (fun _ _ _ h => h) (Or.inl ⟨by rfl, ?_⟩) ?_ ?_
                                  rotate_left
                                  · intro w'
                                    go_simp
                                    with_reducible rfl
                                  rotate_left
                                  · simp only [Act.put, List.setIfInBounds_toArray, List.set_cons_zero, List.set_cons_succ, i64_w, i32_w]
                                    rfl
                                  refine pure_ (i := 11) (N := some 83) (v := ?_) (a' := ?_) #[true, true, true, true, false, true, false, false, false, true, true, true, false, false, false, false, false, false] rfl rfl (any_of HT_.out (by kernel_rfl)) (fun _ _ _ h => h) (Or.inl ⟨by rfl, ?_⟩) ?_ ?_
                                  rotate_left
                                  · intro w'
                                    go_simp
                                    with_reducible rfl
                                  rotate_left
                                  · simp only [Act.put, List.setIfInBounds_toArray, List.set_cons_zero, List.set_cons_succ, i64_w, i32_w]
                                    rfl
                                  refine pure_ (i := 12) (N := some 84) (v := ?_) (a' := ?_) #[true, true, true, true, false, true, false, false, false, true, true, true, true, false, false, false, false, false] rfl rfl (any_of HT_.out (by kernel_rfl)) (fun _ _ _ h => h) (Or.inl ⟨by rfl, ?_⟩) ?_ ?_
                                  rotate_left
                                  · intro w'
                                    go_simp
                                    with_reducible rfl
                                  rotate_left
                                  · simp only [Act.put, List.setIfInBounds_toArray, List.set_cons_zero, List.set_cons_succ, i64_w, i32_w]
                                    rfl
                                  refine take_ (i := 4) (N := some 76) (v := ?_) (a' := ?_) #[true, true, true, true, true, true, false, false, false, true, true, true, true, false, false, false, false, false] rfl rfl (take_ofW HT_.out HW_.out (by kernel_rfl)) (fun _ _ _ h => h) (Or.inl ⟨by rfl, ?_⟩) hHeld ?_ ?_
                                  rotate_left
                                  · rintro w' ⟨s0, s1, s2, s3⟩
                                    (try simp only [add_plain] at s0)
                                    (try simp only [add_plain] at s1)
                                    (try simp only [add_plain] at s2)
                                    (try simp only [add_plain] at s3)
                                    go_simp
                                    with_reducible rfl
                                  rotate_left
                                  · simp only [Act.put, List.setIfInBounds_toArray, List.set_cons_zero, List.set_cons_succ, i64_w, i32_w]
                                    rfl
                                  refine pure_ (i := 6) (N := some 78) (v := ?_) (a' := ?_) #[true, true, true, true, true, true, true, false, false, true, true, true, true, false, false, false, false, false] rfl rfl (any_of HT_.out (by kernel_rfl)) (fun _ _ _ h => h) (Or.inl ⟨by rfl, ?_⟩) ?_ ?_
                                  rotate_left
                                  · intro w'
                                    go_simp
                                    with_reducible rfl
                                  rotate_left
                                  · simp only [Act.put, List.setIfInBounds_toArray, List.set_cons_zero, List.set_cons_succ, i64_w, i32_w]
                                    rfl
                                  refine take_ (i := 7) (N := some 79) (v := ?_) (a' := ?_) #[true, true, true, true, true, true, true, true, false, true, true, true, true, false, false, false, false, false] rfl rfl (take_ofW HT_.out HW_.out (by kernel_rfl)) (fun _ _ _ h => h) (Or.inl ⟨by rfl, ?_⟩) hHeld ?_ ?_
                                  rotate_left
                                  · rintro w' ⟨s0, s1, s2, s3⟩
                                    (try simp only [add_plain] at s0)
                                    (try simp only [add_plain] at s1)
                                    (try simp only [add_plain] at s2)
                                    (try simp only [add_plain] at s3)
                                    go_simp
                                    with_reducible rfl
                                  rotate_left
                                  · simp only [Act.put, List.setIfInBounds_toArray, List.set_cons_zero, List.set_cons_succ, i64_w, i32_w]
                                    rfl
                                  refine take_ (i := 13) (N := some 85) (v := ?_) (a' := ?_) #[true, true, true, true, true, true, true, true, false, true, true, true, true, true, false, false, false, false] rfl rfl (take_ofW HT_.out HW_.out (by kernel_rfl)) (fun _ _ _ h => h) (Or.inl ⟨by rfl, ?_⟩) hHeld ?_ ?_
                                  rotate_left
                                  · rintro w' ⟨s0, s1, s2, s3⟩
                                    (try simp only [add_plain] at s0)
                                    (try simp only [add_plain] at s1)
                                    (try simp only [add_plain] at s2)
                                    (try simp only [add_plain] at s3)
                                    go_simp
                                    with_reducible rfl
                                  rotate_left
                                  · simp only [Act.put, List.setIfInBounds_toArray, List.set_cons_zero, List.set_cons_succ, i64_w, i32_w]
                                    rfl
                                  refine pure_ (i := 14) (N := some 86) (v := ?_) (a' := ?_) #[true, true, true, true, true, true, true, true, false, true, true, true, true, true, true, false, false, false] rfl rfl (any_of HT_.out (by kernel_rfl)) (fun _ _ _ h => h) (Or.inl ⟨by rfl, ?_⟩) ?_ ?_
                                  rotate_left
                                  · intro w'
                                    go_simp
                                    with_reducible rfl
                                  rotate_left
                                  · simp only [Act.put, List.setIfInBounds_toArray, List.set_cons_zero, List.set_cons_succ, i64_w, i32_w]
                                    rfl
                                  refine take_ (i := 15) (N := some 87) (v := ?_) (a' := ?_) #[true, true, true, true, true, true, true, true, false, true, true, true, true, true, true, true, false, false] rfl rfl (take_ofW HT_.out HW_.out (by kernel_rfl)) (fun _ _ _ h => h) (Or.inl ⟨by rfl, ?_⟩) hHeld ?_ ?_
                                  rotate_left
                                  · rintro w' ⟨s0, s1, s2, s3⟩
                                    (try simp only [add_plain] at s0)
                                    (try simp only [add_plain] at s1)
                                    (try simp only [add_plain] at s2)
                                    (try simp only [add_plain] at s3)
                                    go_simp
                                    with_reducible rfl
                                  rotate_left
                                  · simp only [Act.put, List.setIfInBounds_toArray, List.set_cons_zero, List.set_cons_succ, i64_w, i32_w]
                                    rfl
                                  refine one_ (i := 8) (N := some 80) #[true, true, true, true, true, true, true, true, true, true, true, true, true, true, true, true, false, false] rfl rfl (one_of HT_.out (by kernel_rfl)) (by decide) (fun K hK => ?_)
                                  refine goes_ Try.func26 (by kernel_rfl) rfl #[.slice Ao32 t320.length co32, .int .i64 (rd (rd_L4 t315 x9_1) x10_2)] (by rfl) rfl rfl (by (try simp only [List.map_toArray, List.map_cons, List.map_nil]); first | done | rfl | (simp only [List.length_drop, List.length_take]; rfl)) ?_
                                  with_reducible refine (neonwrightlaw07_has.calls k2 _ _ t320 (rd (rd_L4 t315 x9_1) x10_2) t328 _ ?side1 ?side2 A25.out).mono ?_
                                  (case side1 => repeat (first | exact (Kd.R_reads' HO_7.out).2.2 | (with_reducible refine Kd.C_alloc ?_ _) | (with_reducible refine Kd.C_drewN ?_ _) | (with_reducible refine Kd.C_drew ?_)))
                                  (case side2 => exact (Kd.R_reads' HO_7.out).2.1)
                                  rintro e w' ⟨rfl, ⟨nd, rfl⟩⟩
                                  refine ⟨_, rfl, ?_⟩
                                  refine hK.out _ _ ⟨hHeld.1, hHeld.2.1, hHeld.2.2.1, hHeld.2.2.2⟩ (fun hHeld => ?_)
                                  clear hK K
                                  refine norm_ (a' := ?_) ?_ ?_
                                  rotate_left
                                  · show Act.put _ (some 80) _ = _
                                    simp only [Act.put, List.setIfInBounds_toArray, List.set_cons_zero, List.set_cons_succ, i64_w, i32_w]
                                    rfl
                                  refine one_ (i := 16) (N := some 88) #[true, true, true, true, true, true, true, true, true, true, true, true, true, true, true, true, true, false] rfl rfl (one_of HT_.out (by kernel_rfl)) (by decide) (fun K hK => ?_)
                                  refine goes_ Try.func26 (by kernel_rfl) rfl #[.slice Ao32 t320.length co32, .int .i64 (rd (rd_L4 t315 x9_1) 0)] (by rfl) rfl rfl (by (try simp only [List.map_toArray, List.map_cons, List.map_nil]); first | done | rfl | (simp only [List.length_drop, List.length_take]; rfl)) ?_
                                  with_reducible refine (neonwrightlaw07_has.calls k2 _ _ t320 (rd (rd_L4 t315 x9_1) 0) t331 _ ?side1 ?side2 A27.out).mono ?_
                                  (case side1 => repeat (first | exact (Kd.R_reads' HO_7.out).2.2 | (with_reducible refine Kd.C_alloc ?_ _) | (with_reducible refine Kd.C_drewN ?_ _) | (with_reducible refine Kd.C_drew ?_)))
                                  (case side2 => exact (Kd.R_reads' HO_7.out).2.1)
                                  rintro e w' ⟨rfl, ⟨nd, rfl⟩⟩
                                  refine ⟨_, rfl, ?_⟩
                                  refine hK.out _ _ ⟨hHeld.1, hHeld.2.1, hHeld.2.2.1, hHeld.2.2.2⟩ (fun hHeld => ?_)
                                  clear hK K
                                  refine norm_ (a' := ?_) ?_ ?_
                                  rotate_left
                                  · show Act.put _ (some 88) _ = _
                                    simp only [Act.put, List.setIfInBounds_toArray, List.set_cons_zero, List.set_cons_succ, i64_w, i32_w]
                                    rfl
                                  refine pure_ (i := 17) (N := some 89) (v := ?_) (a' := ?_) #[true, true, true, true, true, true, true, true, true, true, true, true, true, true, true, true, true, true] rfl rfl (any_of HT_.out (by kernel_rfl)) (fun _ _ _ h => h) (Or.inl ⟨by rfl, ?_⟩) ?_ ?_
                                  rotate_left
                                  · intro w'
                                    go_simp
                                    with_reducible rfl
                                  rotate_left
                                  · simp only [Act.put, List.setIfInBounds_toArray, List.set_cons_zero, List.set_cons_succ, i64_w, i32_w]
                                    rfl
                                  refine done_ (done_of HT_.out (by kernel_rfl)) ?_
                                  try go_wp2
                                  go_roundg k2
                                  case measure => have := HK1.out; have := HK2.out; omega
                                  case rel => exact ⟨(wrap64 (x10_2 + 1)), (by first | rfl | (simp; done) | (simp [*]; done)), H', ⟨by have := HK1.out; have := HK2.out; omega⟩, ⟨by (with_reducible repeat (first | apply Kd.S_alloc | apply Kd.S_drewN | apply Kd.S_drew)); first | exact HO_5.out | exact Kd.R_mono HO_5.out (fun k_ h_ => ne_own_len h_)⟩, ⟨by (with_reducible repeat (first | apply Kd.R_alloc | apply Kd.R_drewN | apply Kd.R_drew)); first | exact HO_7.out | exact Kd.R_mono HO_7.out (fun k_ h_ => ne_own_len h_)⟩, ⟨by (with_reducible repeat (first | refine blk_drewN ?_ _ | refine blk_drew ?_ | refine blk_alloc ?_ _)); exact BK312.out⟩, ⟨by repeat (first | (with_reducible exact HR324_0.out) | (with_reducible refine Kd.C_alloc ?_ _) | (with_reducible refine Kd.C_drewN ?_ _) | (with_reducible refine Kd.C_drew ?_) | exact HR324_0.out)⟩, ⟨by repeat (first | (with_reducible first | exact HB.out | apply below_alloc | apply pw_below_drewN | apply below_drew1 | refine below_set ?_ GE312.out) | exact HB.out)⟩⟩
                              · rw [if_neg c26] at H
                                exact absurd H (by simp)
                            · rw [if_neg c24] at H
                              exact absurd H (by simp)
                          · rw [if_neg c23] at H
                            have c23b0 : decide (x10_2 < ((rd_L4 t315 x9_1).length : Int)) = false := decide_eq_false c23
                            clear c23
                            have H' := Aside0.mk H
                            clear H
                            have p325 : 0 ≤ (x9_1 : Int) := of_decide_eq_true (by first | (with_reducible assumption) | assumption)
                            have q325 : x9_1 < (t315.length : Int) := of_decide_eq_true (by first | (with_reducible assumption) | assumption)
                            obtain ⟨ad325, A325_0, c325_0, e325, hx325_0, hl325_0, hi325_0⟩ := at_L4 (Kd.S_reads' HO_5.out).2.2 x9_1 p325 q325
                            obtain rfl : ad324 = ad325 := (by injection e325)
                            obtain ⟨ce325, hce325, hMe325, hcc325⟩ := Kd.S_get HO_5.out [] x9_1 p325 (by first | exact q325 | exact of_decide_eq_true (by first | (with_reducible assumption) | assumption) | (have e_ := (Kd.S_reads' HO_5.out).1; omega))
                            obtain ⟨ve325_0, rfl, ge325_0⟩ := hMe325
                            have hv325_0 := hcc325 0 _ rfl
                            rw [Nat.add_zero, show ((Kd.slice 3 (Kd.int .i64))).sz = 1 from rfl, Nat.mul_one] at hv325_0
                            replace hv325_0 := Option.some.inj (hv325_0.symm.trans hx325_0)
                            rw [hv325_0] at ge325_0
                            have HL325_0 := Aside0.mk (show Kd.R (Kd.int .i64) 3 _ _ _ _ (rd_L4 t315 x9_1) from ge325_0)
                            clear hv325_0 ge325_0
                            clear hcc325 hce325
                            have HR325_0 := Aside0.mk hi325_0
                            have HC325_0 := Aside0.mk hl325_0
                            clear hi325_0 hl325_0
                            replace p325 := eq_true p325
                            replace q325 := eq_true q325
                            go_wp2
                            go_roundg k2
                            case measure => have := HK1.out; have := HK2.out; omega
                            case rel => exact ⟨((wrap64 (x8_1 + ((rd_L4 t315 x9_1).length : Int)))), (wrap64 (x9_1 + 1)), (by first | rfl | (simp; done) | (simp [*]; done)), (by first | rfl | (simp; done) | (simp [*]; done)), H', ⟨by have := HK1.out; have := HK2.out; omega⟩, ⟨by (with_reducible repeat (first | apply Kd.S_alloc | apply Kd.S_drewN | apply Kd.S_drew)); first | exact HO_5.out | exact Kd.R_mono HO_5.out (fun k_ h_ => ne_own_len h_)⟩, ⟨by (with_reducible repeat (first | apply Kd.R_alloc | apply Kd.R_drewN | apply Kd.R_drew)); first | exact HO_7.out | exact Kd.R_mono HO_7.out (fun k_ h_ => ne_own_len h_)⟩, ⟨by (with_reducible repeat (first | refine blk_drewN ?_ _ | refine blk_drew ?_ | refine blk_alloc ?_ _)); exact BK312.out⟩, ⟨by repeat (first | (with_reducible first | exact HB.out | apply below_alloc | apply pw_below_drewN | apply below_drew1 | refine below_set ?_ GE312.out) | exact HB.out)⟩⟩
                        · rw [if_neg c22] at H
                          exact absurd H (by simp)
                      · rw [if_neg c21] at H
                        exact absurd H (by simp)
                · rw [if_neg c19] at H
                  exact absurd H (by simp)
              · rw [if_neg c18] at H
                have c18b0 : decide (x9_1 < (t315.length : Int)) = false := decide_eq_false c18
                clear c18
                have HC33 := Aside0.mk H
                clear H
                obtain ⟨Ao34, co34, eo34⟩ := Kd.S_slice HO_5.out
                subst eo34
                go_upto_region 17 with (fail)
                go_cut [98] (fun v98 wc => ∃ (kq : Nat) (x98_32 : Bool), v98 = .bool x98_32 ∧ Aside0 (neonwrightlaw07_GateTwins.j2 kq t315 x98_32 a0_0 l0_1 l0_2 = some r) ∧ Aside0 (kq ≤ k1) ∧ Aside0 (Kd.S (Kd.slice 3 (Kd.int .i64)) 23 wc w.heap.size (fun _ => True) (.slice Ao34 t315.length co34) t315) ∧ Aside0 (wc.heap[gb312]? = some (.cells #[.int .i64 a0_0, (.slice A0_1 l0_1.length c0_1), (.slice A0_2 l0_2.length c0_2)] 25 (0, 0))) ∧ Aside0 (Below w.heap.size w wc))
                case first =>
                  have H := HC33.out
                  clear HC33
                  by_cases c35 : t323 = 0
                  · rw [if_pos c35] at H
                    have c35b0 : (t323 == 0) = true := beq_iff_eq.mpr c35
                    have c35b1 : (t323 != 0) = false := bne_eq_false_iff_eq.mpr c35
                    clear c35
                    (first | rw [c35b0] | (simp only [i64_w, i32_w]; rw [c35b0]) | skip)
                    replace H := Option.bind_eq_some_iff.mp H
                    obtain ⟨t332, A360, H⟩ := H
                    replace H : (neonwrightlaw07_GateTwins.j2 k1 t315 (x8_1 != (wrap64 (2 * t332))) a0_0 l0_1 l0_2) = some r := H
                    have A36 := Aside0.mk A360
                    clear A360
                    have H' := Aside0.mk H
                    clear H
                    have hcz37_0 : wr.cell? ⟨gb312, 0, none⟩ = some (.int .i64 a0_0) := (blk_cell BK312.out 0).trans rfl
                    have hcz37_1 : wr.cell? ⟨gb312, 1, none⟩ = some (.slice A0_1 l0_1.length c0_1) := (blk_cell BK312.out 1).trans rfl
                    have hcz37_2 : wr.cell? ⟨gb312, 2, none⟩ = some (.slice A0_2 l0_2.length c0_2) := (blk_cell BK312.out 2).trans rfl
                    have hfz37_0 := blk_frozen BK312.out 0
                    have hfz37_1 := blk_frozen BK312.out 1
                    have hfz37_2 := blk_frozen BK312.out 2
                    go_wp2_with (first | (go_at_call 27; (with_reducible refine (neonwrightref07_Lines.calls a0_0 _ _ l0_1 _ _ l0_2 t332 _ ?side1 ?side2 ?side3 ?side4 A36.out).mono ?_); (case side1 => repeat (first | exact (Kd.C_below HR0_1.out HB.out) | (with_reducible refine Kd.C_alloc ?_ _) | (with_reducible refine Kd.C_drewN ?_ _) | (with_reducible refine Kd.C_drew ?_))); (case side2 => exact HC0_1.out); (case side3 => repeat (first | exact (Kd.C_below HR0_2.out HB.out) | (with_reducible refine Kd.C_alloc ?_ _) | (with_reducible refine Kd.C_drewN ?_ _) | (with_reducible refine Kd.C_drew ?_))); (case side4 => exact HC0_2.out); rintro e w38 ⟨rfl, hb⟩; have n0_ := Aside0.mk (Kd.S_below (by (with_reducible repeat (first | apply Kd.S_alloc | apply Kd.S_drewN | apply Kd.S_drew)); exact HO_5.out) hb); have n1_ := Aside0.mk (Kd.R_below (by (with_reducible repeat (first | apply Kd.R_alloc | apply Kd.R_drewN | apply Kd.R_drew)); exact HO_7.out) hb); have n2_ := Aside0.mk (blk_below (g := gb312) (o := .cells #[.int .i64 a0_0, .slice A0_1 l0_1.length c0_1, .slice A0_2 l0_2.length c0_2] 25 (0, 0)) (by (with_reducible repeat (first | refine blk_drewN ?_ _ | refine blk_drew ?_ | refine blk_alloc ?_ _)); exact BK312.out) hb); have n3_ := Aside0.mk (below_step (by repeat (first | (with_reducible first | exact HB.out | apply below_alloc | apply pw_below_drewN | apply below_drew1 | refine below_set ?_ GE312.out) | exact HB.out)) hb); clear HO_5; clear HO_7; clear BK312; clear HB; have HO_5 := n0_; have HO_7 := n1_; have BK312 := n2_; have HB := n3_; clear n0_ n1_ n2_ n3_; (try clear hb); (try clear hb2); (try clear hk); (try clear hi)))
                    go_meet
                    case rel => exact ⟨_, ((x8_1 != (wrap64 (2 * t332)))), (by first | rfl | (simp; done) | (simp [*]; done)), H', ⟨by have := HK1.out; first | omega | exact Nat.le_refl _⟩, ⟨by (with_reducible repeat (first | apply Kd.S_alloc | apply Kd.S_drewN | apply Kd.S_drew)); exact Kd.S_mono HO_5.out (fun _ hk => trivial)⟩, ⟨by (with_reducible repeat (first | refine blk_drewN ?_ _ | refine blk_drew ?_ | refine blk_alloc ?_ _)); exact BK312.out⟩, ⟨by repeat (first | (with_reducible first | exact HB.out | apply below_alloc | apply pw_below_drewN | apply below_drew1 | refine below_set ?_ GE312.out) | exact HB.out)⟩⟩
                  · rw [if_neg c35] at H
                    have c35b0 : (t323 == 0) = false := beq_eq_false_iff_ne.mpr c35
                    have c35b1 : (t323 != 0) = true := bne_iff_ne.mpr c35
                    (first | rw [c35b0] | (simp only [i64_w, i32_w]; rw [c35b0]) | skip)
                    have H' := Aside0.mk H
                    clear H
                    go_wp2
                    go_meet
                    case rel => exact ⟨_, (true), (by first | rfl | (simp; done) | (simp [*]; done)), H', ⟨by have := HK1.out; first | omega | exact Nat.le_refl _⟩, ⟨by (with_reducible repeat (first | apply Kd.S_alloc | apply Kd.S_drewN | apply Kd.S_drew)); exact Kd.S_mono HO_5.out (fun _ hk => trivial)⟩, ⟨by (with_reducible repeat (first | refine blk_drewN ?_ _ | refine blk_drew ?_ | refine blk_alloc ?_ _)); exact BK312.out⟩, ⟨by repeat (first | (with_reducible first | exact HB.out | apply below_alloc | apply pw_below_drewN | apply below_drew1 | refine below_set ?_ GE312.out) | exact HB.out)⟩⟩
                case rest =>
                  clear HC33
                  try clear c1
                  try clear c2
                  try clear p2
                  try clear c3
                  try clear p3
                  try clear q3
                  try clear hx3
                  try clear qi3
                  try clear p6
                  try clear c18
                  try clear c18b0
                  try clear c19
                  try clear c21
                  try clear c22
                  try clear c23
                  try clear c23b0
                  try clear c24
                  try clear c26
                  try clear c28
                  try clear c28b0
                  try clear c28b1
                  try clear c28b2
                  try clear c32
                  try clear p32
                  try clear q32
                  try clear hx32
                  try clear p33
                  try clear q33
                  try clear hx33
                  try clear qi33
                  try clear c35
                  try clear c35b0
                  try clear c35b1
                  try clear hcz37_0
                  try clear hcz37_1
                  try clear hcz37_2
                  try clear hfz37_0
                  try clear hfz37_1
                  try clear hfz37_2
                  try clear hx325_0
                  try clear hx326_0
                  try clear hx327_0
                  try clear hx329_0
                  try clear hx330_0
                  try clear p325
                  try clear p326
                  try clear p327
                  try clear p329
                  try clear p330
                  try clear q325
                  try clear q326
                  try clear q327
                  try clear q329
                  try clear q330
                  obtain ⟨kq, x98_32, rfl, HA, HJ32, HO_5, BK312, HB⟩ := hcut
                  cases kq with
                  | zero => exact absurd HA.out (by simp [neonwrightlaw07_GateTwins.j2])
                  | succ kj32 =>
                    have H := HA.out
                    clear HA
                    simp only [neonwrightlaw07_GateTwins.j2] at H
                    by_cases c39 : x98_32 = true
                    · subst c39
                      have H1 : (some false) = some r := by rw [if_pos rfl] at H; exact H
                      clear H
                      have H := H1
                      clear H1
                      obtain rfl := Option.some.inj H
                      go_wp2
                      go_ret
                      exact ⟨by first | rfl | (simp [errW_none, errW_some] <;> rfl) | (simp only [← hji8]; first | rfl | (simp [errW_none, errW_some] <;> rfl)) | (simp [*, errW_none, errW_some] <;> rfl), by repeat (first | (with_reducible first | exact HB.out | apply below_alloc | apply pw_below_drewN | apply below_drew1 | refine below_set ?_ GE312.out) | exact HB.out)⟩
                    · replace c39 := Bool.eq_false_iff.mpr c39
                      subst c39
                      have H1 : ((neonwrightref07_Lines.f a0_0 l0_1 l0_2).bind fun t333 => (if 0 ≤ t333 then (if (t333 : Int).toNat ≤ 35184372088832 then (neonwrightlaw07_GateTwins.l2 kj32 t315 (List.replicate (t333 : Int).toNat 0) 0 a0_0 l0_1 l0_2) else (none)) else (none))) = some r := by rw [if_neg (show ¬ (false = true) by decide)] at H; exact H
                      clear H
                      have H := H1
                      clear H1
                      replace H := Option.bind_eq_some_iff.mp H
                      obtain ⟨t333, A400, H⟩ := H
                      replace H : (if 0 ≤ t333 then (if (t333 : Int).toNat ≤ 35184372088832 then (neonwrightlaw07_GateTwins.l2 kj32 t315 (List.replicate (t333 : Int).toNat 0) 0 a0_0 l0_1 l0_2) else (none)) else (none)) = some r := H
                      have A40 := Aside0.mk A400
                      clear A400
                      by_cases c41 : 0 ≤ t333
                      · rw [if_pos c41] at H
                        have c41b0 := eq_true c41
                        have c41b1 : decide (0 ≤ t333) = true := decide_eq_true c41
                        clear c41
                        by_cases c42 : (t333 : Int).toNat ≤ 35184372088832
                        · rw [if_pos c42] at H
                          have c42b0 := eq_true c42
                          have c42b1 : decide ((t333 : Int).toNat ≤ 35184372088832) = true := decide_eq_true c42
                          clear c42
                          obtain ⟨y334, hy334⟩ : ∃ y_ : List Int, y_ = (List.replicate (t333 : Int).toNat 0) := ⟨_, rfl⟩
                          replace H : (neonwrightlaw07_GateTwins.l2 kj32 t315 y334 0 a0_0 l0_1 l0_2) = some r := by first | (rw [hy334]; with_reducible exact H) | (have H2_ := (Option.bind_some _ _).symm.trans H; rw [hy334]; with_reducible exact H2_) | (have H2_ := (Option.bind_some _ _).symm.trans H; with_reducible exact H2_) | with_reducible exact H | (rw [hy334]; exact H) | exact H
                          have Ny334 := Aside0.mk hy334
                          clear hy334
                          have H' := Aside0.mk H
                          clear H
                          have hcz43_0 : wc.cell? ⟨gb312, 0, none⟩ = some (.int .i64 a0_0) := (blk_cell BK312.out 0).trans rfl
                          have hcz43_1 : wc.cell? ⟨gb312, 1, none⟩ = some (.slice A0_1 l0_1.length c0_1) := (blk_cell BK312.out 1).trans rfl
                          have hcz43_2 : wc.cell? ⟨gb312, 2, none⟩ = some (.slice A0_2 l0_2.length c0_2) := (blk_cell BK312.out 2).trans rfl
                          have hfz43_0 := blk_frozen BK312.out 0
                          have hfz43_1 := blk_frozen BK312.out 1
                          have hfz43_2 := blk_frozen BK312.out 2
                          go_wp2_with (first | ((with_reducible refine gate_callee (f := 27) rfl ?_); refine goesL_ (some 100) rfl rfl Try.func27 (by kernel_rfl) rfl #[.agg #[.int .i64 a0_0, .slice A0_1 l0_1.length c0_1, .slice A0_2 l0_2.length c0_2]] rfl (by (try simp only [List.map_toArray, List.map_cons, List.map_nil]); first | done | rfl | (simp only [List.length_drop, List.length_take]; rfl)) ?_; (with_reducible refine (neonwrightref07_Lines.calls a0_0 _ _ l0_1 _ _ l0_2 t333 _ ?side1 ?side2 ?side3 ?side4 A40.out).mono ?_); (case side1 => repeat (first | exact (Kd.C_below HR0_1.out HB.out) | (with_reducible refine Kd.C_alloc ?_ _) | (with_reducible refine Kd.C_drewN ?_ _) | (with_reducible refine Kd.C_drew ?_))); (case side2 => exact HC0_1.out); (case side3 => repeat (first | exact (Kd.C_below HR0_2.out HB.out) | (with_reducible refine Kd.C_alloc ?_ _) | (with_reducible refine Kd.C_drewN ?_ _) | (with_reducible refine Kd.C_drew ?_))); (case side4 => exact HC0_2.out); rintro e w44 ⟨rfl, hb⟩; refine ⟨_, rfl, ?_⟩; have n0_ := Aside0.mk (Kd.S_below (by (with_reducible repeat (first | apply Kd.S_alloc | apply Kd.S_drewN | apply Kd.S_drew)); exact HO_5.out) hb); have n1_ := Aside0.mk (blk_below (g := gb312) (o := .cells #[.int .i64 a0_0, .slice A0_1 l0_1.length c0_1, .slice A0_2 l0_2.length c0_2] 25 (0, 0)) (by (with_reducible repeat (first | refine blk_drewN ?_ _ | refine blk_drew ?_ | refine blk_alloc ?_ _)); exact BK312.out) hb); have n2_ := Aside0.mk (below_step (by repeat (first | (with_reducible first | exact HB.out | apply below_alloc | apply pw_below_drewN | apply below_drew1 | refine below_set ?_ GE312.out) | exact HB.out)) hb); clear HO_5; clear BK312; clear HB; have HO_5 := n0_; have BK312 := n1_; have HB := n2_; clear n0_ n1_ n2_; (try clear hb); (try clear hb2); (try clear hk); (try clear hi)) | ((with_reducible refine gate_dst (N := 101) rfl ?_); (try (refine gate_guard (by rfl) ?_; dsimp only)); refine Kd.R_make (Kd.int .i64) _ 3 rfl (N := 101) rfl 23 _ _ rfl t333 rfl rfl Try.underlying23 (.int .i64 0) 8 info3 rfl (by decide) (by omega) 0 (ok := fun _ => True) (okp := fun _ => True) rfl (fun _ hk => hk) trivial (of_decide_eq_true (by first | (with_reducible assumption) | assumption)) (Nat.le_trans (Nat.mul_le_mul_right _ (of_decide_eq_true (by first | (with_reducible assumption) | assumption) : t333.toNat ≤ 35184372088832)) (by omega)) (Below.refl _ _) (Nat.le_refl _) ?_; intro v335 w45 ho46 hb hg_ hnew_; clear hg_ hnew_; (first | rw [← Ny334.out] at ho46 | (simp only [Int.reduceToNat] at ho46; rw [← Ny334.out] at ho46)); have n0_ := Aside0.mk (Kd.S_elder' (by (with_reducible repeat (first | apply Kd.S_alloc | apply Kd.S_drewN | apply Kd.S_drew)); exact HO_5.out) (Kd.R_base ho46) hb); have n1_ := Aside0.mk (Kd.R_lower ho46 (below_size (by repeat (first | (with_reducible first | exact HB.out | apply below_alloc | apply pw_below_drewN | apply below_drew1 | refine below_set ?_ GE312.out) | exact HB.out)))); have n2_ := Aside0.mk (blk_below (g := gb312) (o := .cells #[.int .i64 a0_0, .slice A0_1 l0_1.length c0_1, .slice A0_2 l0_2.length c0_2] 25 (0, 0)) (by (with_reducible repeat (first | refine blk_drewN ?_ _ | refine blk_drew ?_ | refine blk_alloc ?_ _)); exact BK312.out) hb); have n3_ := Aside0.mk (below_step (by repeat (first | (with_reducible first | exact HB.out | apply below_alloc | apply pw_below_drewN | apply below_drew1 | refine below_set ?_ GE312.out) | exact HB.out)) hb); clear HO_5; clear BK312; clear HB; have HO_5 := n0_; have HO336 := n1_; have BK312 := n2_; have HB := n3_; clear n0_ n1_ n2_ n3_; clear hb ho46))
                          go_loopg [12] kj32 (fun kq v12 w' => ∃ (x11_3 : List Int) (x12_3 : Int), v12 = .int .i64 x12_3 ∧ Aside0 (neonwrightlaw07_GateTwins.l2 kq t315 x11_3 x12_3 a0_0 l0_1 l0_2 = some r) ∧ Aside0 (kq ≤ kj32) ∧ Aside0 (Kd.S (Kd.slice 3 (Kd.int .i64)) 23 w' w.heap.size (fun k_ => some k_ ≠ (v335 : Value).ownBlock) (.slice Ao34 t315.length co34) t315) ∧ Aside0 (Kd.R (Kd.int .i64) 3 w' w.heap.size (fun _ => True) v335 x11_3) ∧ Aside0 (w'.heap[gb312]? = some (.cells #[.int .i64 a0_0, (.slice A0_1 l0_1.length c0_1), (.slice A0_2 l0_2.length c0_2)] 25 (0, 0))) ∧ Aside0 (Below w.heap.size w w'))
                          case atStart => exact ⟨(y334), (0), (by first | rfl | (simp; done) | (simp [*]; done)), H', ⟨Nat.le_refl _⟩, ⟨by (with_reducible repeat (first | apply Kd.S_alloc | apply Kd.S_drewN | apply Kd.S_drew)); exact Kd.S_mono HO_5.out (fun _ hk => hk.2)⟩, ⟨by (with_reducible repeat (first | apply Kd.R_alloc | apply Kd.R_drewN | apply Kd.R_drew)); first | exact HO336.out | exact Kd.R_mono HO336.out (fun k_ h_ => ne_own_len h_)⟩, ⟨by (with_reducible repeat (first | refine blk_drewN ?_ _ | refine blk_drew ?_ | refine blk_alloc ?_ _)); exact BK312.out⟩, ⟨by repeat (first | (with_reducible first | exact HB.out | apply below_alloc | apply pw_below_drewN | apply below_drew1 | refine below_set ?_ GE312.out) | exact HB.out)⟩⟩
                          case round =>
                            clear H'
                            try clear c1
                            try clear c2
                            try clear p2
                            try clear c3
                            try clear p3
                            try clear q3
                            try clear hx3
                            try clear qi3
                            try clear c4
                            try clear p6
                            try clear c18
                            try clear c18b0
                            try clear c19
                            try clear c21
                            try clear c22
                            try clear c23
                            try clear c23b0
                            try clear c24
                            try clear c26
                            try clear c27
                            try clear c28
                            try clear c28b0
                            try clear c28b1
                            try clear c28b2
                            try clear c32
                            try clear p32
                            try clear q32
                            try clear hx32
                            try clear p33
                            try clear q33
                            try clear hx33
                            try clear qi33
                            try clear c35
                            try clear c35b0
                            try clear c35b1
                            try clear c39
                            try clear c41
                            try clear c41b0
                            try clear c41b1
                            try clear c42
                            try clear c42b0
                            try clear c42b1
                            try clear hcz37_0
                            try clear hcz37_1
                            try clear hcz37_2
                            try clear hcz43_0
                            try clear hcz43_1
                            try clear hcz43_2
                            try clear hfz37_0
                            try clear hfz37_1
                            try clear hfz37_2
                            try clear hfz43_0
                            try clear hfz43_1
                            try clear hfz43_2
                            try clear hx325_0
                            try clear hx326_0
                            try clear hx327_0
                            try clear hx329_0
                            try clear hx330_0
                            try clear p2
                            try clear p3
                            try clear p32
                            try clear p325
                            try clear p326
                            try clear p327
                            try clear p329
                            try clear p33
                            try clear p330
                            try clear p6
                            try clear q3
                            try clear q32
                            try clear q325
                            try clear q326
                            try clear q327
                            try clear q329
                            try clear q33
                            try clear q330
                            obtain ⟨x11_3, x12_3, rfl, HA, HK3, HO_5, HO_11, BK312, HB⟩ := hrel
                            cases gk with
                            | zero => exact absurd HA.out (by simp [neonwrightlaw07_GateTwins.l2])
                            | succ k3 =>
                              have H := HA.out
                              clear HA
                              simp only [neonwrightlaw07_GateTwins.l2] at H
                              by_cases c47 : x12_3 < (l0_2.length : Int)
                              · rw [if_pos c47] at H
                                have c47b0 : decide (x12_3 < (l0_2.length : Int)) = true := decide_eq_true c47
                                clear c47
                                by_cases c48 : 0 ≤ x12_3
                                · rw [if_pos c48] at H
                                  have c48b0 : decide (0 ≤ x12_3) = true := decide_eq_true c48
                                  clear c48
                                  by_cases c49 : 0 ≤ (rd l0_2 x12_3)
                                  · rw [if_pos c49] at H
                                    have c49b0 : decide (0 ≤ (rd l0_2 x12_3)) = true := decide_eq_true c49
                                    clear c49
                                    by_cases c50 : (rd l0_2 x12_3) < (x11_3.length : Int)
                                    · rw [if_pos c50] at H
                                      have c50b0 : decide ((rd l0_2 x12_3) < (x11_3.length : Int)) = true := decide_eq_true c50
                                      clear c50
                                      obtain ⟨y339, hy339⟩ : ∃ y_ : List Int, y_ = (x11_3.set ((rd l0_2 x12_3) : Int).toNat (wrap64 ((rd x11_3 (rd l0_2 x12_3)) + 2))) := ⟨_, rfl⟩
                                      replace H : (neonwrightlaw07_GateTwins.l2 k3 t315 y339 (wrap64 (x12_3 + 1)) a0_0 l0_1 l0_2) = some r := by first | (rw [hy339]; with_reducible exact H) | (have H2_ := (Option.bind_some _ _).symm.trans H; rw [hy339]; with_reducible exact H2_) | (have H2_ := (Option.bind_some _ _).symm.trans H; with_reducible exact H2_) | with_reducible exact H | (rw [hy339]; exact H) | exact H
                                      have Ny339 := Aside0.mk hy339
                                      clear hy339
                                      have H' := Aside0.mk H
                                      clear H
                                      have hcz52_0 : wr.cell? ⟨gb312, 0, none⟩ = some (.int .i64 a0_0) := (blk_cell BK312.out 0).trans rfl
                                      have hcz52_1 : wr.cell? ⟨gb312, 1, none⟩ = some (.slice A0_1 l0_1.length c0_1) := (blk_cell BK312.out 1).trans rfl
                                      have hcz52_2 : wr.cell? ⟨gb312, 2, none⟩ = some (.slice A0_2 l0_2.length c0_2) := (blk_cell BK312.out 2).trans rfl
                                      have hfz52_0 := blk_frozen BK312.out 0
                                      have hfz52_1 := blk_frozen BK312.out 1
                                      have hfz52_2 := blk_frozen BK312.out 2
                                      have p337 : 0 ≤ (x12_3 : Int) := of_decide_eq_true (by first | (with_reducible assumption) | assumption)
                                      have q337 : x12_3 < (l0_2.length : Int) := of_decide_eq_true (by first | (with_reducible assumption) | assumption)
                                      obtain ⟨ad337, e337, hx337_0⟩ := Kd.at_int HR0_2.out x12_3 p337 q337
                                      cases e337
                                      replace hx337_0 := (HB.out.cell (World.block_lt_of_cell? w _ hx337_0)).trans hx337_0
                                      replace p337 := eq_true p337
                                      replace q337 := eq_true q337
                                      obtain ⟨Ao53, co53, eo53⟩ := Kd.R_slice HO_11.out
                                      subst eo53
                                      have p338 : 0 ≤ ((rd l0_2 x12_3) : Int) := of_decide_eq_true (by first | (with_reducible assumption) | assumption)
                                      have q338 : (rd l0_2 x12_3) < (x11_3.length : Int) := of_decide_eq_true (by first | (with_reducible assumption) | assumption)
                                      (try (obtain ⟨Aom_, com_, eom_⟩ := Kd.R_slice HO_11.out; subst eom_))
                                      obtain ⟨ad338, e338, hx338_0⟩ := Kd.at_int (Kd.R_reads' HO_11.out).2.2 (rd l0_2 x12_3) p338 q338
                                      cases e338
                                      replace p338 := eq_true p338
                                      replace q338 := eq_true q338
                                      have p51 : 0 ≤ ((rd l0_2 x12_3) : Int) := of_decide_eq_true (by first | (with_reducible assumption) | assumption)
                                      have q51 : ((rd l0_2 x12_3) : Int) < ((x11_3.length : Int) : Int) := of_decide_eq_true (by first | (with_reducible assumption) | assumption)
                                      obtain ⟨go51, co51, eo51, gb51, gl51, cl51, HG51⟩ := Kd.R_form HO_11.out (by omega)
                                      (first | cases eo51 | (injection eo51 with ea_ en_ ec_; (first | subst ea_ | (injection ea_ with ea_; subst ea_)); subst ec_; clear en_))
                                      have GB51 := Aside0.mk gb51
                                      have GG51 := Aside0.mk HG51
                                      clear gb51 gl51 HG51
                                      (first | simp only [add_plain] at hx338_0 | skip)
                                      obtain ⟨hx51_0, hf51_0⟩ := Kd.R_celln 0 HO_11.out ((rd l0_2 x12_3) : Int) p51 q51
                                      replace p51 := eq_true p51
                                      replace q51 := eq_true q51
                                      have HP54 := Kd.R_putg HO_11.out ((rd l0_2 x12_3) : Int) (wrap64 ((rd x11_3 (rd l0_2 x12_3)) + 2))
                                      go_wp2_with (first | ((with_reducible refine gate_store (t := 3) (p := 118) rfl ?_); refine store_event (t := 3) (p := 118) (v := ?vo_w55) (w1 := (wr.setCell ⟨go51, ((rd l0_2 x12_3) : Int).toNat, none⟩ (.int .i64 (wrap64 ((rd x11_3 (rd l0_2 x12_3)) + 2))))) ?hg ?ho ?hn ?hr ?_; (case ho => rfl); (case hg => rfl); (case hn => rfl); (case hr => first | (go_simp; done) | (go_simp; rfl)); intro w55 hw; have hg : wr.grownBy w55 (some go51) := (by rw [hw]; exact HP54.2); have hp_ : Kd.R (Kd.int .i64) 3 w55 w.heap.size (fun _ => True) (.slice (some ⟨go51, 0, none⟩) x11_3.length co53) y339 := (by rw [hw, Ny339.out]; exact HP54.1); clear HP54; have n0_ := Aside0.mk (Kd.S_after (v := (.slice (some ⟨go51, 0, none⟩) x11_3.length co53)) (v1 := (.slice (some ⟨go51, 0, none⟩) x11_3.length co53)) (ok := (fun _ => True)) (by (with_reducible repeat (first | apply Kd.S_alloc | apply Kd.S_drewN | apply Kd.S_drew)); exact Kd.S_mono HO_5.out (fun _ hk => ⟨trivial, hk⟩)) hg (.inl rfl)); have n1_ := Aside0.mk (hp_); have n2_ := Aside0.mk (blk_grown (g := gb312) (o := .cells #[.int .i64 a0_0, .slice A0_1 l0_1.length c0_1, .slice (some ad337) l0_2.length c0_2] 25 (0, 0)) (by (with_reducible repeat (first | refine blk_drewN ?_ _ | refine blk_drew ?_ | refine blk_alloc ?_ _)); exact BK312.out) hg (Kd.R_ne HO_11.out BK312.out (by decide))); have n3_ := Aside0.mk ((by rw [hw]; exact below_set (HB.out) GB51.out : Below w.heap.size w w55)); clear HO_5; clear HO_11; clear BK312; clear HB; have HO_5 := n0_; have HO_11 := n1_; have BK312 := n2_; have HB := n3_; clear n0_ n1_ n2_ n3_; clear hg hw hp_))
                                      go_roundg k3
                                      case measure => have := HK1.out; have := HJ32.out; have := HK3.out; omega
                                      case rel => exact ⟨(y339), (wrap64 (x12_3 + 1)), (by first | rfl | (simp; done) | (simp [*]; done)), H', ⟨by have := HK1.out; have := HJ32.out; have := HK3.out; omega⟩, ⟨by (with_reducible repeat (first | apply Kd.S_alloc | apply Kd.S_drewN | apply Kd.S_drew)); exact Kd.S_mono HO_5.out (fun _ hk => hk.2)⟩, ⟨by (with_reducible repeat (first | apply Kd.R_alloc | apply Kd.R_drewN | apply Kd.R_drew)); first | exact HO_11.out | exact Kd.R_mono HO_11.out (fun k_ h_ => ne_own_len h_)⟩, ⟨by (with_reducible repeat (first | refine blk_drewN ?_ _ | refine blk_drew ?_ | refine blk_alloc ?_ _)); exact BK312.out⟩, ⟨by repeat (first | (with_reducible first | exact HB.out | apply below_alloc | apply pw_below_drewN | apply below_drew1 | refine below_set ?_ GE312.out) | exact HB.out)⟩⟩
                                    · rw [if_neg c50] at H
                                      exact absurd H (by simp)
                                  · rw [if_neg c49] at H
                                    exact absurd H (by simp)
                                · rw [if_neg c48] at H
                                  exact absurd H (by simp)
                              · rw [if_neg c47] at H
                                have c47b0 : decide (x12_3 < (l0_2.length : Int)) = false := decide_eq_false c47
                                clear c47
                                have H' := Aside0.mk H
                                clear H
                                have hcz56_0 : wr.cell? ⟨gb312, 0, none⟩ = some (.int .i64 a0_0) := (blk_cell BK312.out 0).trans rfl
                                have hcz56_1 : wr.cell? ⟨gb312, 1, none⟩ = some (.slice A0_1 l0_1.length c0_1) := (blk_cell BK312.out 1).trans rfl
                                have hcz56_2 : wr.cell? ⟨gb312, 2, none⟩ = some (.slice A0_2 l0_2.length c0_2) := (blk_cell BK312.out 2).trans rfl
                                have hfz56_0 := blk_frozen BK312.out 0
                                have hfz56_1 := blk_frozen BK312.out 1
                                have hfz56_2 := blk_frozen BK312.out 2
                                go_wp2
                                go_loopg [13] k3 (fun kq v13 w' => ∃ (x11_4 : List Int) (x13_4 : Int), v13 = .int .i64 x13_4 ∧ Aside0 (neonwrightlaw07_GateTwins.l3 kq t315 x11_4 x13_4 a0_0 l0_1 l0_2 = some r) ∧ Aside0 (kq ≤ k3) ∧ Aside0 (Kd.S (Kd.slice 3 (Kd.int .i64)) 23 w' w.heap.size (fun k_ => some k_ ≠ (v335 : Value).ownBlock) (.slice Ao34 t315.length co34) t315) ∧ Aside0 (Kd.R (Kd.int .i64) 3 w' w.heap.size (fun _ => True) v335 x11_4) ∧ Aside0 (w'.heap[gb312]? = some (.cells #[.int .i64 a0_0, (.slice A0_1 l0_1.length c0_1), (.slice A0_2 l0_2.length c0_2)] 25 (0, 0))) ∧ Aside0 (Below w.heap.size w w'))
                                case atStart => exact ⟨(x11_3), (0), (by first | rfl | (simp; done) | (simp [*]; done)), H', ⟨Nat.le_refl _⟩, ⟨by (with_reducible repeat (first | apply Kd.S_alloc | apply Kd.S_drewN | apply Kd.S_drew)); first | exact HO_5.out | exact Kd.R_mono HO_5.out (fun k_ h_ => ne_own_len h_)⟩, ⟨by (with_reducible repeat (first | apply Kd.R_alloc | apply Kd.R_drewN | apply Kd.R_drew)); first | exact HO_11.out | exact Kd.R_mono HO_11.out (fun k_ h_ => ne_own_len h_)⟩, ⟨by (with_reducible repeat (first | refine blk_drewN ?_ _ | refine blk_drew ?_ | refine blk_alloc ?_ _)); exact BK312.out⟩, ⟨by repeat (first | (with_reducible first | exact HB.out | apply below_alloc | apply pw_below_drewN | apply below_drew1 | refine below_set ?_ GE312.out) | exact HB.out)⟩⟩
                                case round =>
                                  clear H'
                                  try clear c1
                                  try clear c2
                                  try clear p2
                                  try clear c3
                                  try clear p3
                                  try clear q3
                                  try clear hx3
                                  try clear qi3
                                  try clear c4
                                  try clear c5
                                  try clear p5
                                  try clear q5
                                  try clear hx5
                                  try clear hf5
                                  try clear p6
                                  try clear c18
                                  try clear c18b0
                                  try clear c19
                                  try clear c21
                                  try clear c22
                                  try clear c23
                                  try clear c23b0
                                  try clear c24
                                  try clear c26
                                  try clear c27
                                  try clear c28
                                  try clear c28b0
                                  try clear c28b1
                                  try clear c28b2
                                  try clear c32
                                  try clear p32
                                  try clear q32
                                  try clear hx32
                                  try clear p33
                                  try clear q33
                                  try clear hx33
                                  try clear qi33
                                  try clear c35
                                  try clear c35b0
                                  try clear c35b1
                                  try clear c39
                                  try clear c41
                                  try clear c41b0
                                  try clear c41b1
                                  try clear c42
                                  try clear c42b0
                                  try clear c42b1
                                  try clear c47
                                  try clear c47b0
                                  try clear c48
                                  try clear c48b0
                                  try clear c49
                                  try clear c49b0
                                  try clear c50
                                  try clear c50b0
                                  try clear p51
                                  try clear q51
                                  try clear hx51
                                  try clear hf51
                                  try clear hcz37_0
                                  try clear hcz37_1
                                  try clear hcz37_2
                                  try clear hcz43_0
                                  try clear hcz43_1
                                  try clear hcz43_2
                                  try clear hcz52_0
                                  try clear hcz52_1
                                  try clear hcz52_2
                                  try clear hcz56_0
                                  try clear hcz56_1
                                  try clear hcz56_2
                                  try clear hfz37_0
                                  try clear hfz37_1
                                  try clear hfz37_2
                                  try clear hfz43_0
                                  try clear hfz43_1
                                  try clear hfz43_2
                                  try clear hfz52_0
                                  try clear hfz52_1
                                  try clear hfz52_2
                                  try clear hfz56_0
                                  try clear hfz56_1
                                  try clear hfz56_2
                                  try clear hx325_0
                                  try clear hx326_0
                                  try clear hx327_0
                                  try clear hx329_0
                                  try clear hx330_0
                                  try clear hx337_0
                                  try clear hx338_0
                                  try clear hx51_0
                                  try clear p2
                                  try clear p3
                                  try clear p32
                                  try clear p325
                                  try clear p326
                                  try clear p327
                                  try clear p329
                                  try clear p33
                                  try clear p330
                                  try clear p337
                                  try clear p338
                                  try clear p51
                                  try clear p6
                                  try clear q3
                                  try clear q32
                                  try clear q325
                                  try clear q326
                                  try clear q327
                                  try clear q329
                                  try clear q33
                                  try clear q330
                                  try clear q337
                                  try clear q338
                                  try clear q51
                                  obtain ⟨x11_4, x13_4, rfl, HA, HK4, HO_5, HO_11, BK312, HB⟩ := hrel
                                  cases gk with
                                  | zero => exact absurd HA.out (by simp [neonwrightlaw07_GateTwins.l3])
                                  | succ k4 =>
                                    have H := HA.out
                                    clear HA
                                    simp only [neonwrightlaw07_GateTwins.l3] at H
                                    by_cases c57 : x13_4 < (l0_1.length : Int)
                                    · rw [if_pos c57] at H
                                      have c57b0 : decide (x13_4 < (l0_1.length : Int)) = true := decide_eq_true c57
                                      clear c57
                                      by_cases c58 : 0 ≤ x13_4
                                      · rw [if_pos c58] at H
                                        have c58b0 : decide (0 ≤ x13_4) = true := decide_eq_true c58
                                        clear c58
                                        by_cases c59 : 0 ≤ ((rd_T40 l0_1 x13_4).f1)
                                        · rw [if_pos c59] at H
                                          have c59b0 : decide (0 ≤ ((rd_T40 l0_1 x13_4).f1)) = true := decide_eq_true c59
                                          clear c59
                                          by_cases c60 : ((rd_T40 l0_1 x13_4).f1) < (x11_4.length : Int)
                                          · rw [if_pos c60] at H
                                            have c60b0 : decide (((rd_T40 l0_1 x13_4).f1) < (x11_4.length : Int)) = true := decide_eq_true c60
                                            clear c60
                                            obtain ⟨y343, hy343⟩ : ∃ y_ : List Int, y_ = (x11_4.set (((rd_T40 l0_1 x13_4).f1) : Int).toNat (wrap64 ((rd x11_4 ((rd_T40 l0_1 x13_4).f1)) + 1))) := ⟨_, rfl⟩
                                            replace H : (if ((rd_T40 l0_1 x13_4).f0) = 5 then (neonwrightlaw07_GateTwins.l3 k4 t315 y343 (wrap64 (x13_4 + 1)) a0_0 l0_1 l0_2) else (if 0 ≤ ((rd_T40 l0_1 x13_4).f2) then (if ((rd_T40 l0_1 x13_4).f2) < (x11_4.length : Int) then (neonwrightlaw07_GateTwins.l3 k4 t315 (y343.set (((rd_T40 l0_1 x13_4).f2) : Int).toNat (wrap64 ((rd y343 ((rd_T40 l0_1 x13_4).f2)) + 1))) (wrap64 (x13_4 + 1)) a0_0 l0_1 l0_2) else (none)) else (none))) = some r := by first | (rw [hy343]; with_reducible exact H) | (have H2_ := (Option.bind_some _ _).symm.trans H; rw [hy343]; with_reducible exact H2_) | (have H2_ := (Option.bind_some _ _).symm.trans H; with_reducible exact H2_) | with_reducible exact H | (rw [hy343]; exact H) | exact H
                                            have Ny343 := Aside0.mk hy343
                                            clear hy343
                                            by_cases c62 : ((rd_T40 l0_1 x13_4).f0) = 5
                                            · rw [if_pos c62] at H
                                              have c62b0 : (((rd_T40 l0_1 x13_4).f0) == 5) = true := beq_iff_eq.mpr c62
                                              have c62b1 : (((rd_T40 l0_1 x13_4).f0) != 5) = false := bne_eq_false_iff_eq.mpr c62
                                              clear c62
                                              have H' := Aside0.mk H
                                              clear H
                                              have hcz63_0 : wr.cell? ⟨gb312, 0, none⟩ = some (.int .i64 a0_0) := (blk_cell BK312.out 0).trans rfl
                                              have hcz63_1 : wr.cell? ⟨gb312, 1, none⟩ = some (.slice A0_1 l0_1.length c0_1) := (blk_cell BK312.out 1).trans rfl
                                              have hcz63_2 : wr.cell? ⟨gb312, 2, none⟩ = some (.slice A0_2 l0_2.length c0_2) := (blk_cell BK312.out 2).trans rfl
                                              have hfz63_0 := blk_frozen BK312.out 0
                                              have hfz63_1 := blk_frozen BK312.out 1
                                              have hfz63_2 := blk_frozen BK312.out 2
                                              have p340 : 0 ≤ (x13_4 : Int) := of_decide_eq_true (by first | (with_reducible assumption) | assumption)
                                              have q340 : x13_4 < (l0_1.length : Int) := of_decide_eq_true (by first | (with_reducible assumption) | assumption)
                                              obtain ⟨ad340, e340, hx340_0, hx340_1, hx340_2⟩ := at_T40 HR0_1.out x13_4 p340 q340
                                              cases e340
                                              replace hx340_0 := (HB.out.cell (World.block_lt_of_cell? w _ hx340_0)).trans hx340_0
                                              replace hx340_1 := (HB.out.cell (World.block_lt_of_cell? w _ hx340_1)).trans hx340_1
                                              replace hx340_2 := (HB.out.cell (World.block_lt_of_cell? w _ hx340_2)).trans hx340_2
                                              replace p340 := eq_true p340
                                              replace q340 := eq_true q340
                                              go_wp2_with (first | ((with_reducible refine gate_dst (N := 14) rfl ?_); (try (refine gate_guard (by rfl) ?_; dsimp only)); refine box_event ?hg (N := 14) ?hd (cs := #[.int .i64 0, .int .i64 0, .int .i64 0]) (t := 40) ?hr ?_; (case hd => rfl); (case hg => rfl); (case hr => first | (go_simp; done) | (go_simp; rfl)); intro gb341 hg w64 hbox hb; have n0_ := Aside0.mk (Kd.S_below (by (with_reducible repeat (first | apply Kd.S_alloc | apply Kd.S_drewN | apply Kd.S_drew)); exact HO_5.out) hb); have n1_ := Aside0.mk (Kd.R_below (by (with_reducible repeat (first | apply Kd.R_alloc | apply Kd.R_drewN | apply Kd.R_drew)); exact HO_11.out) hb); have n2_ := Aside0.mk (blk_below (g := gb312) (o := .cells #[.int .i64 a0_0, .slice (some ad340) l0_1.length c0_1, .slice A0_2 l0_2.length c0_2] 25 (0, 0)) (by (with_reducible repeat (first | refine blk_drewN ?_ _ | refine blk_drew ?_ | refine blk_alloc ?_ _)); exact BK312.out) hb); have n3_ := Aside0.mk (below_step (by repeat (first | (with_reducible first | exact HB.out | apply below_alloc | apply pw_below_drewN | apply below_drew1 | refine below_set ?_ GE312.out) | exact HB.out)) hb); have n4_ := Aside0.mk (hbox); have n5_ := Aside0.mk ((by rw [hg]; exact (below_size (by repeat (first | (with_reducible first | exact HB.out | apply below_alloc | apply pw_below_drewN | apply below_drew1 | refine below_set ?_ GE312.out) | exact HB.out))) : w.heap.size ≤ gb341)); have n6_ := Aside0.mk ((by rw [hg]; exact (below_size (by repeat (first | (with_reducible first | exact HB.out | apply below_alloc | apply pw_below_drewN | apply below_drew1 | refine below_set ?_ GE312.out) | exact HB.out))) : w.heap.size ≤ gb341)); have n7_ := Aside0.mk ((by rw [hg]; exact Nat.ne_of_lt (blk_lt (g := gb312) (o := .cells #[.int .i64 a0_0, .slice (some ad340) l0_1.length c0_1, .slice A0_2 l0_2.length c0_2] 25 (0, 0)) (by (with_reducible repeat (first | refine blk_drewN ?_ _ | refine blk_drew ?_ | refine blk_alloc ?_ _)); exact BK312.out)) : gb312 ≠ gb341)); have n8_ := Aside0.mk ((by rw [hg]; exact Nat.ne_of_gt (blk_lt (g := gb312) (o := .cells #[.int .i64 a0_0, .slice (some ad340) l0_1.length c0_1, .slice A0_2 l0_2.length c0_2] 25 (0, 0)) (by (with_reducible repeat (first | refine blk_drewN ?_ _ | refine blk_drew ?_ | refine blk_alloc ?_ _)); exact BK312.out)) : gb341 ≠ gb312)); clear HO_5; clear HO_11; clear BK312; clear HB; have HO_5 := n0_; have HO_11 := n1_; have BK312 := n2_; have HB := n3_; have BK341 := n4_; have GW341 := n5_; have GE341 := n6_; have NB312_341 := n7_; have NB341_312 := n8_; clear n0_ n1_ n2_ n3_ n4_ n5_ n6_ n7_ n8_; clear hb hbox hg; have hnb65 := NB341_312.out; have hnc65 := NB312_341.out; have hcz66_0 : w64.cell? ⟨gb341, 0, none⟩ = some (.int .i64 0) := (blk_cell BK341.out 0).trans rfl; have hcz66_1 : w64.cell? ⟨gb341, 1, none⟩ = some (.int .i64 0) := (blk_cell BK341.out 1).trans rfl; have hcz66_2 : w64.cell? ⟨gb341, 2, none⟩ = some (.int .i64 0) := (blk_cell BK341.out 2).trans rfl; have hfz66_0 := blk_frozen BK341.out 0; have hfz66_1 := blk_frozen BK341.out 1; have hfz66_2 := blk_frozen BK341.out 2) | ((with_reducible refine gate_store (t := 40) (p := 14) rfl ?_); refine store_event (t := 40) (p := 14) (v := ?vo_w67) (w1 := (((w64.setCell ⟨gb341, 0, none⟩ (.int .i64 ((rd_T40 l0_1 x13_4).f0))).setCell ⟨gb341, 1, none⟩ (.int .i64 ((rd_T40 l0_1 x13_4).f1))).setCell ⟨gb341, 2, none⟩ (.int .i64 ((rd_T40 l0_1 x13_4).f2)))) ?hg ?ho ?hn ?hr ?_; (case ho => rfl); (case hg => rfl); (case hn => rfl); (case hr => first | (go_simp; done) | (go_simp; rfl)); intro w67 hw; have n0_ : Aside0 (Kd.S (Kd.slice 3 (Kd.int .i64)) 23 w67 w.heap.size (fun k_ => some k_ ≠ (v335 : Value).ownBlock) (.slice Ao34 t315.length co34) t315) := ⟨(by rw [hw]; exact (by (with_reducible repeat (first | apply Kd.S_alloc | apply Kd.S_drewN | apply Kd.S_drew)); exact Kd.S_mono (Kd.S_far (p := ⟨gb341, 2, none⟩) (Kd.S_far (p := ⟨gb341, 1, none⟩) (Kd.S_far (p := ⟨gb341, 0, none⟩) (Kd.S_types HO_5.out BK341.out (by decide)) (fun _ hk => hk.2) (.int .i64 ((rd_T40 l0_1 x13_4).f0))) (fun _ hk => hk.2) (.int .i64 ((rd_T40 l0_1 x13_4).f1))) (fun _ hk => hk.2) (.int .i64 ((rd_T40 l0_1 x13_4).f2))) (fun _ hk => hk.1)))⟩; have n1_ : Aside0 (Kd.R (Kd.int .i64) 3 w67 w.heap.size (fun _ => True) v335 x11_4) := ⟨(by rw [hw]; exact (by (with_reducible repeat (first | apply Kd.R_alloc | apply Kd.R_drewN | apply Kd.R_drew)); exact Kd.R_mono (Kd.R_far (p := ⟨gb341, 2, none⟩) (Kd.R_far (p := ⟨gb341, 1, none⟩) (Kd.R_far (p := ⟨gb341, 0, none⟩) (Kd.R_types HO_11.out BK341.out (by decide)) (fun _ hk => hk.2) (.int .i64 ((rd_T40 l0_1 x13_4).f0))) (fun _ hk => hk.2) (.int .i64 ((rd_T40 l0_1 x13_4).f1))) (fun _ hk => hk.2) (.int .i64 ((rd_T40 l0_1 x13_4).f2))) (fun _ hk => trivial)))⟩; have n2_ : Aside0 (w67.heap[gb312]? = some (.cells #[.int .i64 a0_0, .slice (some ad340) l0_1.length c0_1, .slice A0_2 l0_2.length c0_2] 25 (0, 0))) := ⟨(by rw [hw]; exact (by (with_reducible repeat (first | refine blk_drewN ?_ _ | refine blk_drew ?_ | refine blk_alloc ?_ _)); refine blk_far ?_ NB312_341.out _; (with_reducible repeat (first | refine blk_drewN ?_ _ | refine blk_drew ?_ | refine blk_alloc ?_ _)); refine blk_far ?_ NB312_341.out _; (with_reducible repeat (first | refine blk_drewN ?_ _ | refine blk_drew ?_ | refine blk_alloc ?_ _)); refine blk_far ?_ NB312_341.out _; (with_reducible repeat (first | refine blk_drewN ?_ _ | refine blk_drew ?_ | refine blk_alloc ?_ _)); exact BK312.out))⟩; have n3_ : Aside0 (w67.heap[gb341]? = some (.cells #[.int .i64 ((rd_T40 l0_1 x13_4).f0), .int .i64 ((rd_T40 l0_1 x13_4).f1), .int .i64 ((rd_T40 l0_1 x13_4).f2)] 40 (0, 0))) := ⟨(by rw [hw]; exact (by (with_reducible repeat (first | refine blk_drewN ?_ _ | refine blk_drew ?_ | refine blk_alloc ?_ _)); refine blk_put (cs := #[.int .i64 ((rd_T40 l0_1 x13_4).f0), .int .i64 ((rd_T40 l0_1 x13_4).f1), .int .i64 0]) ?_ 2 _ rfl; (with_reducible repeat (first | refine blk_drewN ?_ _ | refine blk_drew ?_ | refine blk_alloc ?_ _)); refine blk_put (cs := #[.int .i64 ((rd_T40 l0_1 x13_4).f0), .int .i64 0, .int .i64 0]) ?_ 1 _ rfl; (with_reducible repeat (first | refine blk_drewN ?_ _ | refine blk_drew ?_ | refine blk_alloc ?_ _)); refine blk_put (cs := #[.int .i64 0, .int .i64 0, .int .i64 0]) ?_ 0 _ rfl; (with_reducible repeat (first | refine blk_drewN ?_ _ | refine blk_drew ?_ | refine blk_alloc ?_ _)); exact BK341.out))⟩; have n4_ : Aside0 (Below w.heap.size w w67) := ⟨(by rw [hw]; exact (by repeat (first | (with_reducible first | exact HB.out | apply below_alloc | apply pw_below_drewN | apply below_drew1 | refine below_set ?_ GE312.out | refine below_set ?_ GE341.out) | exact HB.out)))⟩; clear hw; clear HO_5; clear HO_11; clear BK312; clear BK341; clear HB; have HO_5 := n0_; have HO_11 := n1_; have BK312 := n2_; have BK341 := n3_; have HB := n4_; clear n0_ n1_ n2_ n3_ n4_; have hcz68_0 : w67.cell? ⟨gb341, 0, none⟩ = some (.int .i64 ((rd_T40 l0_1 x13_4).f0)) := (blk_cell BK341.out 0).trans rfl; have hcz68_1 : w67.cell? ⟨gb341, 1, none⟩ = some (.int .i64 ((rd_T40 l0_1 x13_4).f1)) := (blk_cell BK341.out 1).trans rfl; have hcz68_2 : w67.cell? ⟨gb341, 2, none⟩ = some (.int .i64 ((rd_T40 l0_1 x13_4).f2)) := (blk_cell BK341.out 2).trans rfl; have hfz68_0 := blk_frozen BK341.out 0; have hfz68_1 := blk_frozen BK341.out 1; have hfz68_2 := blk_frozen BK341.out 2; obtain ⟨Ao69, co69, eo69⟩ := Kd.R_slice HO_11.out; subst eo69; have p342 : 0 ≤ (((rd_T40 l0_1 x13_4).f1) : Int) := of_decide_eq_true (by first | (with_reducible assumption) | assumption); have q342 : ((rd_T40 l0_1 x13_4).f1) < (x11_4.length : Int) := of_decide_eq_true (by first | (with_reducible assumption) | assumption); obtain ⟨ad342, e342, hx342_0⟩ := Kd.at_int (Kd.R_reads' HO_11.out).2.2 ((rd_T40 l0_1 x13_4).f1) p342 q342; cases e342; replace p342 := eq_true p342; replace q342 := eq_true q342; have p61 : 0 ≤ (((rd_T40 l0_1 x13_4).f1) : Int) := of_decide_eq_true (by first | (with_reducible assumption) | assumption); have q61 : (((rd_T40 l0_1 x13_4).f1) : Int) < ((x11_4.length : Int) : Int) := of_decide_eq_true (by first | (with_reducible assumption) | assumption); obtain ⟨go61, co61, eo61, gb61, gl61, cl61, HG61⟩ := Kd.R_form HO_11.out (by omega); (first | cases eo61 | (injection eo61 with ea_ en_ ec_; (first | subst ea_ | (injection ea_ with ea_; subst ea_)); subst ec_; clear en_)); have GB61 := Aside0.mk gb61; have GG61 := Aside0.mk HG61; clear gb61 gl61 HG61; (first | simp only [add_plain] at hx342_0 | skip); obtain ⟨hx61_0, hf61_0⟩ := Kd.R_celln 0 HO_11.out (((rd_T40 l0_1 x13_4).f1) : Int) p61 q61; replace p61 := eq_true p61; replace q61 := eq_true q61; obtain ⟨hy70_, hz70_⟩ := Kd.R_celln 0 HO_11.out (((rd_T40 l0_1 x13_4).f1) : Int) (of_decide_eq_true (by first | (with_reducible assumption) | assumption)) (of_decide_eq_true (by first | (with_reducible assumption) | assumption)); have HP70 := Kd.R_putg HO_11.out (((rd_T40 l0_1 x13_4).f1) : Int) (wrap64 ((rd x11_4 ((rd_T40 l0_1 x13_4).f1)) + 1))) | ((with_reducible refine gate_store (t := 3) (p := 137) rfl ?_); refine store_event (t := 3) (p := 137) (v := ?vo_w71) (w1 := (w67.setCell ⟨go61, (((rd_T40 l0_1 x13_4).f1) : Int).toNat, none⟩ (.int .i64 (wrap64 ((rd x11_4 ((rd_T40 l0_1 x13_4).f1)) + 1))))) ?hg ?ho ?hn ?hr ?_; (case ho => rfl); (case hg => rfl); (case hn => rfl); (case hr => first | (go_simp; done) | (go_simp; rfl)); intro w71 hw; have hg : w67.grownBy w71 (some go61) := (by rw [hw]; exact HP70.2); have hp_ : Kd.R (Kd.int .i64) 3 w71 w.heap.size (fun _ => True) (.slice (some ⟨go61, 0, none⟩) x11_4.length co69) y343 := (by rw [hw, Ny343.out]; exact HP70.1); clear HP70; have n0_ := Aside0.mk (Kd.S_after (v := (.slice (some ⟨go61, 0, none⟩) x11_4.length co69)) (v1 := (.slice (some ⟨go61, 0, none⟩) x11_4.length co69)) (ok := (fun _ => True)) (by (with_reducible repeat (first | apply Kd.S_alloc | apply Kd.S_drewN | apply Kd.S_drew)); exact Kd.S_mono HO_5.out (fun _ hk => ⟨trivial, hk⟩)) hg (.inl rfl)); have n1_ := Aside0.mk (hp_); have n2_ := Aside0.mk (blk_grown (g := gb312) (o := .cells #[.int .i64 a0_0, .slice (some ad340) l0_1.length c0_1, .slice A0_2 l0_2.length c0_2] 25 (0, 0)) (by (with_reducible repeat (first | refine blk_drewN ?_ _ | refine blk_drew ?_ | refine blk_alloc ?_ _)); exact BK312.out) hg (Kd.R_ne HO_11.out BK312.out (by decide))); have n3_ := Aside0.mk (blk_grown (g := gb341) (o := .cells #[.int .i64 ((rd_T40 l0_1 x13_4).f0), .int .i64 ((rd_T40 l0_1 x13_4).f1), .int .i64 ((rd_T40 l0_1 x13_4).f2)] 40 (0, 0)) (by (with_reducible repeat (first | refine blk_drewN ?_ _ | refine blk_drew ?_ | refine blk_alloc ?_ _)); exact BK341.out) hg (Kd.R_ne HO_11.out BK341.out (by decide))); have n4_ := Aside0.mk ((by rw [hw]; exact below_set (HB.out) GB61.out : Below w.heap.size w w71)); clear HO_5; clear HO_11; clear BK312; clear BK341; clear HB; have HO_5 := n0_; have HO_11 := n1_; have BK312 := n2_; have BK341 := n3_; have HB := n4_; clear n0_ n1_ n2_ n3_ n4_; clear hg hw hp_; have hcz72_0 : w71.cell? ⟨gb341, 0, none⟩ = some (.int .i64 ((rd_T40 l0_1 x13_4).f0)) := (blk_cell BK341.out 0).trans rfl; have hcz72_1 : w71.cell? ⟨gb341, 1, none⟩ = some (.int .i64 ((rd_T40 l0_1 x13_4).f1)) := (blk_cell BK341.out 1).trans rfl; have hcz72_2 : w71.cell? ⟨gb341, 2, none⟩ = some (.int .i64 ((rd_T40 l0_1 x13_4).f2)) := (blk_cell BK341.out 2).trans rfl; have hfz72_0 := blk_frozen BK341.out 0; have hfz72_1 := blk_frozen BK341.out 1; have hfz72_2 := blk_frozen BK341.out 2))
                                              go_roundg k4
                                              case measure => have := HK1.out; have := HJ32.out; have := HK3.out; have := HK4.out; omega
                                              case rel => exact ⟨(y343), (wrap64 (x13_4 + 1)), (by first | rfl | (simp; done) | (simp [*]; done)), H', ⟨by have := HK1.out; have := HJ32.out; have := HK3.out; have := HK4.out; omega⟩, ⟨by (with_reducible repeat (first | apply Kd.S_alloc | apply Kd.S_drewN | apply Kd.S_drew)); exact Kd.S_mono HO_5.out (fun _ hk => hk.2)⟩, ⟨by (with_reducible repeat (first | apply Kd.R_alloc | apply Kd.R_drewN | apply Kd.R_drew)); first | exact HO_11.out | exact Kd.R_mono HO_11.out (fun k_ h_ => ne_own_len h_)⟩, ⟨by (with_reducible repeat (first | refine blk_drewN ?_ _ | refine blk_drew ?_ | refine blk_alloc ?_ _)); exact BK312.out⟩, ⟨by repeat (first | (with_reducible first | exact HB.out | apply below_alloc | apply pw_below_drewN | apply below_drew1 | refine below_set ?_ GE312.out | refine below_set ?_ GE341.out) | exact HB.out)⟩⟩
                                            · rw [if_neg c62] at H
                                              have c62b0 : (((rd_T40 l0_1 x13_4).f0) == 5) = false := beq_eq_false_iff_ne.mpr c62
                                              have c62b1 : (((rd_T40 l0_1 x13_4).f0) != 5) = true := bne_iff_ne.mpr c62
                                              by_cases c73 : 0 ≤ ((rd_T40 l0_1 x13_4).f2)
                                              · rw [if_pos c73] at H
                                                have c73b0 : decide (0 ≤ ((rd_T40 l0_1 x13_4).f2)) = true := decide_eq_true c73
                                                clear c73
                                                by_cases c74 : ((rd_T40 l0_1 x13_4).f2) < (x11_4.length : Int)
                                                · rw [if_pos c74] at H
                                                  have c74b0 : decide (((rd_T40 l0_1 x13_4).f2) < (x11_4.length : Int)) = true := decide_eq_true c74
                                                  clear c74
                                                  obtain ⟨y345, hy345⟩ : ∃ y_ : List Int, y_ = (y343.set (((rd_T40 l0_1 x13_4).f2) : Int).toNat (wrap64 ((rd y343 ((rd_T40 l0_1 x13_4).f2)) + 1))) := ⟨_, rfl⟩
                                                  replace H : (neonwrightlaw07_GateTwins.l3 k4 t315 y345 (wrap64 (x13_4 + 1)) a0_0 l0_1 l0_2) = some r := by first | (rw [hy345]; with_reducible exact H) | (have H2_ := (Option.bind_some _ _).symm.trans H; rw [hy345]; with_reducible exact H2_) | (have H2_ := (Option.bind_some _ _).symm.trans H; with_reducible exact H2_) | with_reducible exact H | (rw [hy345]; exact H) | exact H
                                                  have Ny345 := Aside0.mk hy345
                                                  clear hy345
                                                  have H' := Aside0.mk H
                                                  clear H
                                                  have hcz76_0 : wr.cell? ⟨gb312, 0, none⟩ = some (.int .i64 a0_0) := (blk_cell BK312.out 0).trans rfl
                                                  have hcz76_1 : wr.cell? ⟨gb312, 1, none⟩ = some (.slice A0_1 l0_1.length c0_1) := (blk_cell BK312.out 1).trans rfl
                                                  have hcz76_2 : wr.cell? ⟨gb312, 2, none⟩ = some (.slice A0_2 l0_2.length c0_2) := (blk_cell BK312.out 2).trans rfl
                                                  have hfz76_0 := blk_frozen BK312.out 0
                                                  have hfz76_1 := blk_frozen BK312.out 1
                                                  have hfz76_2 := blk_frozen BK312.out 2
                                                  have p340 : 0 ≤ (x13_4 : Int) := of_decide_eq_true (by first | (with_reducible assumption) | assumption)
                                                  have q340 : x13_4 < (l0_1.length : Int) := of_decide_eq_true (by first | (with_reducible assumption) | assumption)
                                                  obtain ⟨ad340, e340, hx340_0, hx340_1, hx340_2⟩ := at_T40 HR0_1.out x13_4 p340 q340
                                                  cases e340
                                                  replace hx340_0 := (HB.out.cell (World.block_lt_of_cell? w _ hx340_0)).trans hx340_0
                                                  replace hx340_1 := (HB.out.cell (World.block_lt_of_cell? w _ hx340_1)).trans hx340_1
                                                  replace hx340_2 := (HB.out.cell (World.block_lt_of_cell? w _ hx340_2)).trans hx340_2
                                                  replace p340 := eq_true p340
                                                  replace q340 := eq_true q340
                                                  go_wp2_with (first | ((with_reducible refine gate_dst (N := 14) rfl ?_); (try (refine gate_guard (by rfl) ?_; dsimp only)); refine box_event ?hg (N := 14) ?hd (cs := #[.int .i64 0, .int .i64 0, .int .i64 0]) (t := 40) ?hr ?_; (case hd => rfl); (case hg => rfl); (case hr => first | (go_simp; done) | (go_simp; rfl)); intro gb341 hg w77 hbox hb; have n0_ := Aside0.mk (Kd.S_below (by (with_reducible repeat (first | apply Kd.S_alloc | apply Kd.S_drewN | apply Kd.S_drew)); exact HO_5.out) hb); have n1_ := Aside0.mk (Kd.R_below (by (with_reducible repeat (first | apply Kd.R_alloc | apply Kd.R_drewN | apply Kd.R_drew)); exact HO_11.out) hb); have n2_ := Aside0.mk (blk_below (g := gb312) (o := .cells #[.int .i64 a0_0, .slice (some ad340) l0_1.length c0_1, .slice A0_2 l0_2.length c0_2] 25 (0, 0)) (by (with_reducible repeat (first | refine blk_drewN ?_ _ | refine blk_drew ?_ | refine blk_alloc ?_ _)); exact BK312.out) hb); have n3_ := Aside0.mk (below_step (by repeat (first | (with_reducible first | exact HB.out | apply below_alloc | apply pw_below_drewN | apply below_drew1 | refine below_set ?_ GE312.out) | exact HB.out)) hb); have n4_ := Aside0.mk (hbox); have n5_ := Aside0.mk ((by rw [hg]; exact (below_size (by repeat (first | (with_reducible first | exact HB.out | apply below_alloc | apply pw_below_drewN | apply below_drew1 | refine below_set ?_ GE312.out) | exact HB.out))) : w.heap.size ≤ gb341)); have n6_ := Aside0.mk ((by rw [hg]; exact (below_size (by repeat (first | (with_reducible first | exact HB.out | apply below_alloc | apply pw_below_drewN | apply below_drew1 | refine below_set ?_ GE312.out) | exact HB.out))) : w.heap.size ≤ gb341)); have n7_ := Aside0.mk ((by rw [hg]; exact Nat.ne_of_lt (blk_lt (g := gb312) (o := .cells #[.int .i64 a0_0, .slice (some ad340) l0_1.length c0_1, .slice A0_2 l0_2.length c0_2] 25 (0, 0)) (by (with_reducible repeat (first | refine blk_drewN ?_ _ | refine blk_drew ?_ | refine blk_alloc ?_ _)); exact BK312.out)) : gb312 ≠ gb341)); have n8_ := Aside0.mk ((by rw [hg]; exact Nat.ne_of_gt (blk_lt (g := gb312) (o := .cells #[.int .i64 a0_0, .slice (some ad340) l0_1.length c0_1, .slice A0_2 l0_2.length c0_2] 25 (0, 0)) (by (with_reducible repeat (first | refine blk_drewN ?_ _ | refine blk_drew ?_ | refine blk_alloc ?_ _)); exact BK312.out)) : gb341 ≠ gb312)); clear HO_5; clear HO_11; clear BK312; clear HB; have HO_5 := n0_; have HO_11 := n1_; have BK312 := n2_; have HB := n3_; have BK341 := n4_; have GW341 := n5_; have GE341 := n6_; have NB312_341 := n7_; have NB341_312 := n8_; clear n0_ n1_ n2_ n3_ n4_ n5_ n6_ n7_ n8_; clear hb hbox hg; have hnb78 := NB341_312.out; have hnc78 := NB312_341.out; have hcz79_0 : w77.cell? ⟨gb341, 0, none⟩ = some (.int .i64 0) := (blk_cell BK341.out 0).trans rfl; have hcz79_1 : w77.cell? ⟨gb341, 1, none⟩ = some (.int .i64 0) := (blk_cell BK341.out 1).trans rfl; have hcz79_2 : w77.cell? ⟨gb341, 2, none⟩ = some (.int .i64 0) := (blk_cell BK341.out 2).trans rfl; have hfz79_0 := blk_frozen BK341.out 0; have hfz79_1 := blk_frozen BK341.out 1; have hfz79_2 := blk_frozen BK341.out 2) | ((with_reducible refine gate_store (t := 40) (p := 14) rfl ?_); refine store_event (t := 40) (p := 14) (v := ?vo_w80) (w1 := (((w77.setCell ⟨gb341, 0, none⟩ (.int .i64 ((rd_T40 l0_1 x13_4).f0))).setCell ⟨gb341, 1, none⟩ (.int .i64 ((rd_T40 l0_1 x13_4).f1))).setCell ⟨gb341, 2, none⟩ (.int .i64 ((rd_T40 l0_1 x13_4).f2)))) ?hg ?ho ?hn ?hr ?_; (case ho => rfl); (case hg => rfl); (case hn => rfl); (case hr => first | (go_simp; done) | (go_simp; rfl)); intro w80 hw; have n0_ : Aside0 (Kd.S (Kd.slice 3 (Kd.int .i64)) 23 w80 w.heap.size (fun k_ => some k_ ≠ (v335 : Value).ownBlock) (.slice Ao34 t315.length co34) t315) := ⟨(by rw [hw]; exact (by (with_reducible repeat (first | apply Kd.S_alloc | apply Kd.S_drewN | apply Kd.S_drew)); exact Kd.S_mono (Kd.S_far (p := ⟨gb341, 2, none⟩) (Kd.S_far (p := ⟨gb341, 1, none⟩) (Kd.S_far (p := ⟨gb341, 0, none⟩) (Kd.S_types HO_5.out BK341.out (by decide)) (fun _ hk => hk.2) (.int .i64 ((rd_T40 l0_1 x13_4).f0))) (fun _ hk => hk.2) (.int .i64 ((rd_T40 l0_1 x13_4).f1))) (fun _ hk => hk.2) (.int .i64 ((rd_T40 l0_1 x13_4).f2))) (fun _ hk => hk.1)))⟩; have n1_ : Aside0 (Kd.R (Kd.int .i64) 3 w80 w.heap.size (fun _ => True) v335 x11_4) := ⟨(by rw [hw]; exact (by (with_reducible repeat (first | apply Kd.R_alloc | apply Kd.R_drewN | apply Kd.R_drew)); exact Kd.R_mono (Kd.R_far (p := ⟨gb341, 2, none⟩) (Kd.R_far (p := ⟨gb341, 1, none⟩) (Kd.R_far (p := ⟨gb341, 0, none⟩) (Kd.R_types HO_11.out BK341.out (by decide)) (fun _ hk => hk.2) (.int .i64 ((rd_T40 l0_1 x13_4).f0))) (fun _ hk => hk.2) (.int .i64 ((rd_T40 l0_1 x13_4).f1))) (fun _ hk => hk.2) (.int .i64 ((rd_T40 l0_1 x13_4).f2))) (fun _ hk => trivial)))⟩; have n2_ : Aside0 (w80.heap[gb312]? = some (.cells #[.int .i64 a0_0, .slice (some ad340) l0_1.length c0_1, .slice A0_2 l0_2.length c0_2] 25 (0, 0))) := ⟨(by rw [hw]; exact (by (with_reducible repeat (first | refine blk_drewN ?_ _ | refine blk_drew ?_ | refine blk_alloc ?_ _)); refine blk_far ?_ NB312_341.out _; (with_reducible repeat (first | refine blk_drewN ?_ _ | refine blk_drew ?_ | refine blk_alloc ?_ _)); refine blk_far ?_ NB312_341.out _; (with_reducible repeat (first | refine blk_drewN ?_ _ | refine blk_drew ?_ | refine blk_alloc ?_ _)); refine blk_far ?_ NB312_341.out _; (with_reducible repeat (first | refine blk_drewN ?_ _ | refine blk_drew ?_ | refine blk_alloc ?_ _)); exact BK312.out))⟩; have n3_ : Aside0 (w80.heap[gb341]? = some (.cells #[.int .i64 ((rd_T40 l0_1 x13_4).f0), .int .i64 ((rd_T40 l0_1 x13_4).f1), .int .i64 ((rd_T40 l0_1 x13_4).f2)] 40 (0, 0))) := ⟨(by rw [hw]; exact (by (with_reducible repeat (first | refine blk_drewN ?_ _ | refine blk_drew ?_ | refine blk_alloc ?_ _)); refine blk_put (cs := #[.int .i64 ((rd_T40 l0_1 x13_4).f0), .int .i64 ((rd_T40 l0_1 x13_4).f1), .int .i64 0]) ?_ 2 _ rfl; (with_reducible repeat (first | refine blk_drewN ?_ _ | refine blk_drew ?_ | refine blk_alloc ?_ _)); refine blk_put (cs := #[.int .i64 ((rd_T40 l0_1 x13_4).f0), .int .i64 0, .int .i64 0]) ?_ 1 _ rfl; (with_reducible repeat (first | refine blk_drewN ?_ _ | refine blk_drew ?_ | refine blk_alloc ?_ _)); refine blk_put (cs := #[.int .i64 0, .int .i64 0, .int .i64 0]) ?_ 0 _ rfl; (with_reducible repeat (first | refine blk_drewN ?_ _ | refine blk_drew ?_ | refine blk_alloc ?_ _)); exact BK341.out))⟩; have n4_ : Aside0 (Below w.heap.size w w80) := ⟨(by rw [hw]; exact (by repeat (first | (with_reducible first | exact HB.out | apply below_alloc | apply pw_below_drewN | apply below_drew1 | refine below_set ?_ GE312.out | refine below_set ?_ GE341.out) | exact HB.out)))⟩; clear hw; clear HO_5; clear HO_11; clear BK312; clear BK341; clear HB; have HO_5 := n0_; have HO_11 := n1_; have BK312 := n2_; have BK341 := n3_; have HB := n4_; clear n0_ n1_ n2_ n3_ n4_; have hcz81_0 : w80.cell? ⟨gb341, 0, none⟩ = some (.int .i64 ((rd_T40 l0_1 x13_4).f0)) := (blk_cell BK341.out 0).trans rfl; have hcz81_1 : w80.cell? ⟨gb341, 1, none⟩ = some (.int .i64 ((rd_T40 l0_1 x13_4).f1)) := (blk_cell BK341.out 1).trans rfl; have hcz81_2 : w80.cell? ⟨gb341, 2, none⟩ = some (.int .i64 ((rd_T40 l0_1 x13_4).f2)) := (blk_cell BK341.out 2).trans rfl; have hfz81_0 := blk_frozen BK341.out 0; have hfz81_1 := blk_frozen BK341.out 1; have hfz81_2 := blk_frozen BK341.out 2; obtain ⟨Ao82, co82, eo82⟩ := Kd.R_slice HO_11.out; subst eo82; have p342 : 0 ≤ (((rd_T40 l0_1 x13_4).f1) : Int) := of_decide_eq_true (by first | (with_reducible assumption) | assumption); have q342 : ((rd_T40 l0_1 x13_4).f1) < (x11_4.length : Int) := of_decide_eq_true (by first | (with_reducible assumption) | assumption); obtain ⟨ad342, e342, hx342_0⟩ := Kd.at_int (Kd.R_reads' HO_11.out).2.2 ((rd_T40 l0_1 x13_4).f1) p342 q342; cases e342; replace p342 := eq_true p342; replace q342 := eq_true q342; have p61 : 0 ≤ (((rd_T40 l0_1 x13_4).f1) : Int) := of_decide_eq_true (by first | (with_reducible assumption) | assumption); have q61 : (((rd_T40 l0_1 x13_4).f1) : Int) < ((x11_4.length : Int) : Int) := of_decide_eq_true (by first | (with_reducible assumption) | assumption); obtain ⟨go61, co61, eo61, gb61, gl61, cl61, HG61⟩ := Kd.R_form HO_11.out (by omega); (first | cases eo61 | (injection eo61 with ea_ en_ ec_; (first | subst ea_ | (injection ea_ with ea_; subst ea_)); subst ec_; clear en_)); have GB61 := Aside0.mk gb61; have GG61 := Aside0.mk HG61; clear gb61 gl61 HG61; (first | simp only [add_plain] at hx342_0 | skip); obtain ⟨hx61_0, hf61_0⟩ := Kd.R_celln 0 HO_11.out (((rd_T40 l0_1 x13_4).f1) : Int) p61 q61; replace p61 := eq_true p61; replace q61 := eq_true q61; obtain ⟨hy83_, hz83_⟩ := Kd.R_celln 0 HO_11.out (((rd_T40 l0_1 x13_4).f1) : Int) (of_decide_eq_true (by first | (with_reducible assumption) | assumption)) (of_decide_eq_true (by first | (with_reducible assumption) | assumption)); have HP83 := Kd.R_putg HO_11.out (((rd_T40 l0_1 x13_4).f1) : Int) (wrap64 ((rd x11_4 ((rd_T40 l0_1 x13_4).f1)) + 1))) | ((with_reducible refine gate_store (t := 3) (p := 137) rfl ?_); refine store_event (t := 3) (p := 137) (v := ?vo_w84) (w1 := (w80.setCell ⟨go61, (((rd_T40 l0_1 x13_4).f1) : Int).toNat, none⟩ (.int .i64 (wrap64 ((rd x11_4 ((rd_T40 l0_1 x13_4).f1)) + 1))))) ?hg ?ho ?hn ?hr ?_; (case ho => rfl); (case hg => rfl); (case hn => rfl); (case hr => first | (go_simp; done) | (go_simp; rfl)); intro w84 hw; have hg : w80.grownBy w84 (some go61) := (by rw [hw]; exact HP83.2); have hp_ : Kd.R (Kd.int .i64) 3 w84 w.heap.size (fun _ => True) (.slice (some ⟨go61, 0, none⟩) x11_4.length co82) y343 := (by rw [hw, Ny343.out]; exact HP83.1); clear HP83; have n0_ := Aside0.mk (Kd.S_after (v := (.slice (some ⟨go61, 0, none⟩) x11_4.length co82)) (v1 := (.slice (some ⟨go61, 0, none⟩) x11_4.length co82)) (ok := (fun _ => True)) (by (with_reducible repeat (first | apply Kd.S_alloc | apply Kd.S_drewN | apply Kd.S_drew)); exact Kd.S_mono HO_5.out (fun _ hk => ⟨trivial, hk⟩)) hg (.inl rfl)); have n1_ := Aside0.mk (hp_); have n2_ := Aside0.mk (blk_grown (g := gb312) (o := .cells #[.int .i64 a0_0, .slice (some ad340) l0_1.length c0_1, .slice A0_2 l0_2.length c0_2] 25 (0, 0)) (by (with_reducible repeat (first | refine blk_drewN ?_ _ | refine blk_drew ?_ | refine blk_alloc ?_ _)); exact BK312.out) hg (Kd.R_ne HO_11.out BK312.out (by decide))); have n3_ := Aside0.mk (blk_grown (g := gb341) (o := .cells #[.int .i64 ((rd_T40 l0_1 x13_4).f0), .int .i64 ((rd_T40 l0_1 x13_4).f1), .int .i64 ((rd_T40 l0_1 x13_4).f2)] 40 (0, 0)) (by (with_reducible repeat (first | refine blk_drewN ?_ _ | refine blk_drew ?_ | refine blk_alloc ?_ _)); exact BK341.out) hg (Kd.R_ne HO_11.out BK341.out (by decide))); have n4_ := Aside0.mk ((by rw [hw]; exact below_set (HB.out) GB61.out : Below w.heap.size w w84)); clear HO_5; clear HO_11; clear BK312; clear BK341; clear HB; have HO_5 := n0_; have HO_11 := n1_; have BK312 := n2_; have BK341 := n3_; have HB := n4_; clear n0_ n1_ n2_ n3_ n4_; clear hg hw hp_; have hcz85_0 : w84.cell? ⟨gb341, 0, none⟩ = some (.int .i64 ((rd_T40 l0_1 x13_4).f0)) := (blk_cell BK341.out 0).trans rfl; have hcz85_1 : w84.cell? ⟨gb341, 1, none⟩ = some (.int .i64 ((rd_T40 l0_1 x13_4).f1)) := (blk_cell BK341.out 1).trans rfl; have hcz85_2 : w84.cell? ⟨gb341, 2, none⟩ = some (.int .i64 ((rd_T40 l0_1 x13_4).f2)) := (blk_cell BK341.out 2).trans rfl; have hfz85_0 := blk_frozen BK341.out 0; have hfz85_1 := blk_frozen BK341.out 1; have hfz85_2 := blk_frozen BK341.out 2; have p344 : 0 ≤ (((rd_T40 l0_1 x13_4).f2) : Int) := of_decide_eq_true (by first | (with_reducible assumption) | assumption); have q344 : ((rd_T40 l0_1 x13_4).f2) < (y343.length : Int) := (by have h_ : (((rd_T40 l0_1 x13_4).f2) : Int) < ((x11_4.length : Int) : Int) := of_decide_eq_true (by first | (with_reducible assumption) | assumption); first | (have e_ := (Kd.R_reads' HO_11.out).1; omega) | simpa only [Ny343.out, List.length_set] using h_); have ql344 : ((((rd_T40 l0_1 x13_4).f2) : Int) < ((x11_4.length : Int) : Int)) = True := eq_true (of_decide_eq_true (by first | (with_reducible assumption) | assumption)); obtain ⟨ad344, e344, hx344_0⟩ := Kd.at_int (Kd.R_reads' HO_11.out).2.2 ((rd_T40 l0_1 x13_4).f2) p344 q344; obtain rfl : (⟨go61, 0, none⟩ : Addr) = ad344 := (by injection e344); (first | simp only [add_plain] at hx344_0 | simp only [add_at] at hx344_0 | simp only [Addr.add, Nat.zero_add] at hx344_0 | skip); replace p344 := eq_true p344; replace q344 := eq_true q344; have p75 : 0 ≤ (((rd_T40 l0_1 x13_4).f2) : Int) := of_decide_eq_true (by first | (with_reducible assumption) | assumption); have q75 : (((rd_T40 l0_1 x13_4).f2) : Int) < ((x11_4.length : Int) : Int) := of_decide_eq_true (by first | (with_reducible assumption) | assumption); obtain ⟨hx75_0, hf75_0⟩ := Kd.R_celln 0 HO_11.out (((rd_T40 l0_1 x13_4).f2) : Int) p75 q75; replace p75 := eq_true p75; replace q75 := eq_true q75; obtain ⟨hy86_, hz86_⟩ := Kd.R_celln 0 HO_11.out (((rd_T40 l0_1 x13_4).f2) : Int) (of_decide_eq_true (by first | (with_reducible assumption) | assumption)) (of_decide_eq_true (by first | (with_reducible assumption) | assumption)); have HP86 := Kd.R_putg HO_11.out (((rd_T40 l0_1 x13_4).f2) : Int) (wrap64 ((rd y343 ((rd_T40 l0_1 x13_4).f2)) + 1))) | ((with_reducible refine gate_store (t := 3) (p := 147) rfl ?_); refine store_event (t := 3) (p := 147) (v := ?vo_w87) (w1 := (w84.setCell ⟨go61, (((rd_T40 l0_1 x13_4).f2) : Int).toNat, none⟩ (.int .i64 (wrap64 ((rd y343 ((rd_T40 l0_1 x13_4).f2)) + 1))))) ?hg ?ho ?hn ?hr ?_; (case ho => rfl); (case hg => rfl); (case hn => rfl); (case hr => first | (go_simp; done) | (go_simp; rfl)); intro w87 hw; have hg : w84.grownBy w87 (some go61) := (by rw [hw]; exact HP86.2); have hp_ : Kd.R (Kd.int .i64) 3 w87 w.heap.size (fun _ => True) (.slice (some ⟨go61, 0, none⟩) x11_4.length co82) y345 := (by rw [hw, Ny345.out]; exact HP86.1); clear HP86; have n0_ := Aside0.mk (Kd.S_after (v := (.slice (some ⟨go61, 0, none⟩) x11_4.length co82)) (v1 := (.slice (some ⟨go61, 0, none⟩) x11_4.length co82)) (ok := (fun _ => True)) (by (with_reducible repeat (first | apply Kd.S_alloc | apply Kd.S_drewN | apply Kd.S_drew)); exact HO_5.out) hg (.inl rfl)); have n1_ := Aside0.mk (hp_); have n2_ := Aside0.mk (blk_grown (g := gb312) (o := .cells #[.int .i64 a0_0, .slice (some ad340) l0_1.length c0_1, .slice A0_2 l0_2.length c0_2] 25 (0, 0)) (by (with_reducible repeat (first | refine blk_drewN ?_ _ | refine blk_drew ?_ | refine blk_alloc ?_ _)); exact BK312.out) hg (Kd.R_ne HO_11.out BK312.out (by decide))); have n3_ := Aside0.mk (blk_grown (g := gb341) (o := .cells #[.int .i64 ((rd_T40 l0_1 x13_4).f0), .int .i64 ((rd_T40 l0_1 x13_4).f1), .int .i64 ((rd_T40 l0_1 x13_4).f2)] 40 (0, 0)) (by (with_reducible repeat (first | refine blk_drewN ?_ _ | refine blk_drew ?_ | refine blk_alloc ?_ _)); exact BK341.out) hg (Kd.R_ne HO_11.out BK341.out (by decide))); have n4_ := Aside0.mk ((by rw [hw]; exact below_set (HB.out) GB61.out : Below w.heap.size w w87)); clear HO_5; clear HO_11; clear BK312; clear BK341; clear HB; have HO_5 := n0_; have HO_11 := n1_; have BK312 := n2_; have BK341 := n3_; have HB := n4_; clear n0_ n1_ n2_ n3_ n4_; clear hg hw hp_))
                                                  go_roundg k4
                                                  case measure => have := HK1.out; have := HJ32.out; have := HK3.out; have := HK4.out; omega
                                                  case rel => exact ⟨(y345), (wrap64 (x13_4 + 1)), (by first | rfl | (simp; done) | (simp [*]; done)), H', ⟨by have := HK1.out; have := HJ32.out; have := HK3.out; have := HK4.out; omega⟩, ⟨by (with_reducible repeat (first | apply Kd.S_alloc | apply Kd.S_drewN | apply Kd.S_drew)); exact Kd.S_mono HO_5.out (fun _ hk => hk.2)⟩, ⟨by (with_reducible repeat (first | apply Kd.R_alloc | apply Kd.R_drewN | apply Kd.R_drew)); first | exact HO_11.out | exact Kd.R_mono HO_11.out (fun k_ h_ => ne_own_len h_)⟩, ⟨by (with_reducible repeat (first | refine blk_drewN ?_ _ | refine blk_drew ?_ | refine blk_alloc ?_ _)); exact BK312.out⟩, ⟨by repeat (first | (with_reducible first | exact HB.out | apply below_alloc | apply pw_below_drewN | apply below_drew1 | refine below_set ?_ GE312.out | refine below_set ?_ GE341.out) | exact HB.out)⟩⟩
                                                · rw [if_neg c74] at H
                                                  exact absurd H (by simp)
                                              · rw [if_neg c73] at H
                                                exact absurd H (by simp)
                                          · rw [if_neg c60] at H
                                            exact absurd H (by simp)
                                        · rw [if_neg c59] at H
                                          exact absurd H (by simp)
                                      · rw [if_neg c58] at H
                                        exact absurd H (by simp)
                                    · rw [if_neg c57] at H
                                      have c57b0 : decide (x13_4 < (l0_1.length : Int)) = false := decide_eq_false c57
                                      clear c57
                                      have H' := Aside0.mk H
                                      clear H
                                      have hcz88_0 : wr.cell? ⟨gb312, 0, none⟩ = some (.int .i64 a0_0) := (blk_cell BK312.out 0).trans rfl
                                      have hcz88_1 : wr.cell? ⟨gb312, 1, none⟩ = some (.slice A0_1 l0_1.length c0_1) := (blk_cell BK312.out 1).trans rfl
                                      have hcz88_2 : wr.cell? ⟨gb312, 2, none⟩ = some (.slice A0_2 l0_2.length c0_2) := (blk_cell BK312.out 2).trans rfl
                                      have hfz88_0 := blk_frozen BK312.out 0
                                      have hfz88_1 := blk_frozen BK312.out 1
                                      have hfz88_2 := blk_frozen BK312.out 2
                                      go_wp2
                                      go_loopg [15] k4 (fun kq v15 w' => ∃ (x15_5 : Int), v15 = .int .i64 x15_5 ∧ Aside0 (neonwrightlaw07_GateTwins.l4 kq t315 x11_4 x15_5 a0_0 l0_1 l0_2 = some r) ∧ Aside0 (kq ≤ k4) ∧ Aside0 (Kd.S (Kd.slice 3 (Kd.int .i64)) 23 w' w.heap.size (fun k_ => some k_ ≠ (v335 : Value).ownBlock) (.slice Ao34 t315.length co34) t315) ∧ Aside0 (Kd.R (Kd.int .i64) 3 w' w.heap.size (fun _ => True) v335 x11_4) ∧ Aside0 (w'.heap[gb312]? = some (.cells #[.int .i64 a0_0, (.slice A0_1 l0_1.length c0_1), (.slice A0_2 l0_2.length c0_2)] 25 (0, 0))) ∧ Aside0 (Below w.heap.size w w'))
                                      case atStart => exact ⟨(0), (by first | rfl | (simp; done) | (simp [*]; done)), H', ⟨Nat.le_refl _⟩, ⟨by (with_reducible repeat (first | apply Kd.S_alloc | apply Kd.S_drewN | apply Kd.S_drew)); first | exact HO_5.out | exact Kd.R_mono HO_5.out (fun k_ h_ => ne_own_len h_)⟩, ⟨by (with_reducible repeat (first | apply Kd.R_alloc | apply Kd.R_drewN | apply Kd.R_drew)); first | exact HO_11.out | exact Kd.R_mono HO_11.out (fun k_ h_ => ne_own_len h_)⟩, ⟨by (with_reducible repeat (first | refine blk_drewN ?_ _ | refine blk_drew ?_ | refine blk_alloc ?_ _)); exact BK312.out⟩, ⟨by repeat (first | (with_reducible first | exact HB.out | apply below_alloc | apply pw_below_drewN | apply below_drew1 | refine below_set ?_ GE312.out) | exact HB.out)⟩⟩
                                      case round =>
                                        clear H'
                                        try clear c1
                                        try clear c2
                                        try clear p2
                                        try clear c3
                                        try clear p3
                                        try clear q3
                                        try clear hx3
                                        try clear qi3
                                        try clear c4
                                        try clear c5
                                        try clear p5
                                        try clear q5
                                        try clear hx5
                                        try clear hf5
                                        try clear c6
                                        try clear p6
                                        try clear q6
                                        try clear hx6
                                        try clear hf6
                                        try clear c7
                                        try clear p7
                                        try clear q7
                                        try clear hx7
                                        try clear hf7
                                        try clear c18
                                        try clear c18b0
                                        try clear c19
                                        try clear c21
                                        try clear c22
                                        try clear c23
                                        try clear c23b0
                                        try clear c24
                                        try clear c26
                                        try clear c27
                                        try clear c28
                                        try clear c28b0
                                        try clear c28b1
                                        try clear c28b2
                                        try clear c32
                                        try clear p32
                                        try clear q32
                                        try clear hx32
                                        try clear p33
                                        try clear q33
                                        try clear hx33
                                        try clear qi33
                                        try clear p34
                                        try clear q34
                                        try clear hx34
                                        try clear c35
                                        try clear c35b0
                                        try clear c35b1
                                        try clear c39
                                        try clear c41
                                        try clear c41b0
                                        try clear c41b1
                                        try clear c42
                                        try clear c42b0
                                        try clear c42b1
                                        try clear c47
                                        try clear c47b0
                                        try clear c48
                                        try clear c48b0
                                        try clear c49
                                        try clear c49b0
                                        try clear c50
                                        try clear c50b0
                                        try clear p51
                                        try clear q51
                                        try clear hx51
                                        try clear hf51
                                        try clear c57
                                        try clear c57b0
                                        try clear c58
                                        try clear c58b0
                                        try clear c59
                                        try clear c59b0
                                        try clear c60
                                        try clear c60b0
                                        try clear p61
                                        try clear q61
                                        try clear hx61
                                        try clear hf61
                                        try clear c62
                                        try clear c62b0
                                        try clear c62b1
                                        try clear p64
                                        try clear c65
                                        try clear c73
                                        try clear c73b0
                                        try clear c74
                                        try clear c74b0
                                        try clear p75
                                        try clear q75
                                        try clear hx75
                                        try clear hf75
                                        try clear c78
                                        try clear hcz37_0
                                        try clear hcz37_1
                                        try clear hcz37_2
                                        try clear hcz43_0
                                        try clear hcz43_1
                                        try clear hcz43_2
                                        try clear hcz52_0
                                        try clear hcz52_1
                                        try clear hcz52_2
                                        try clear hcz56_0
                                        try clear hcz56_1
                                        try clear hcz56_2
                                        try clear hcz63_0
                                        try clear hcz63_1
                                        try clear hcz63_2
                                        try clear hcz66_0
                                        try clear hcz66_1
                                        try clear hcz66_2
                                        try clear hcz68_0
                                        try clear hcz68_1
                                        try clear hcz68_2
                                        try clear hcz72_0
                                        try clear hcz72_1
                                        try clear hcz72_2
                                        try clear hcz76_0
                                        try clear hcz76_1
                                        try clear hcz76_2
                                        try clear hcz79_0
                                        try clear hcz79_1
                                        try clear hcz79_2
                                        try clear hcz81_0
                                        try clear hcz81_1
                                        try clear hcz81_2
                                        try clear hcz85_0
                                        try clear hcz85_1
                                        try clear hcz85_2
                                        try clear hcz88_0
                                        try clear hcz88_1
                                        try clear hcz88_2
                                        try clear hfz37_0
                                        try clear hfz37_1
                                        try clear hfz37_2
                                        try clear hfz43_0
                                        try clear hfz43_1
                                        try clear hfz43_2
                                        try clear hfz52_0
                                        try clear hfz52_1
                                        try clear hfz52_2
                                        try clear hfz56_0
                                        try clear hfz56_1
                                        try clear hfz56_2
                                        try clear hfz63_0
                                        try clear hfz63_1
                                        try clear hfz63_2
                                        try clear hfz66_0
                                        try clear hfz66_1
                                        try clear hfz66_2
                                        try clear hfz68_0
                                        try clear hfz68_1
                                        try clear hfz68_2
                                        try clear hfz72_0
                                        try clear hfz72_1
                                        try clear hfz72_2
                                        try clear hfz76_0
                                        try clear hfz76_1
                                        try clear hfz76_2
                                        try clear hfz79_0
                                        try clear hfz79_1
                                        try clear hfz79_2
                                        try clear hfz81_0
                                        try clear hfz81_1
                                        try clear hfz81_2
                                        try clear hfz85_0
                                        try clear hfz85_1
                                        try clear hfz85_2
                                        try clear hfz88_0
                                        try clear hfz88_1
                                        try clear hfz88_2
                                        try clear hx325_0
                                        try clear hx326_0
                                        try clear hx327_0
                                        try clear hx329_0
                                        try clear hx330_0
                                        try clear hx337_0
                                        try clear hx338_0
                                        try clear hx340_0
                                        try clear hx340_1
                                        try clear hx340_2
                                        try clear hx342_0
                                        try clear hx344_0
                                        try clear hx51_0
                                        try clear hx61_0
                                        try clear hx75_0
                                        try clear p2
                                        try clear p3
                                        try clear p32
                                        try clear p325
                                        try clear p326
                                        try clear p327
                                        try clear p329
                                        try clear p33
                                        try clear p330
                                        try clear p337
                                        try clear p338
                                        try clear p340
                                        try clear p342
                                        try clear p344
                                        try clear p5
                                        try clear p51
                                        try clear p6
                                        try clear p61
                                        try clear p75
                                        try clear q3
                                        try clear q32
                                        try clear q325
                                        try clear q326
                                        try clear q327
                                        try clear q329
                                        try clear q33
                                        try clear q330
                                        try clear q337
                                        try clear q338
                                        try clear q340
                                        try clear q342
                                        try clear q344
                                        try clear q5
                                        try clear q51
                                        try clear q61
                                        try clear q75
                                        obtain ⟨x15_5, rfl, HA, HK5, HO_5, HO_11, BK312, HB⟩ := hrel
                                        cases gk with
                                        | zero => exact absurd HA.out (by simp [neonwrightlaw07_GateTwins.l4])
                                        | succ k5 =>
                                          have H := HA.out
                                          clear HA
                                          simp only [neonwrightlaw07_GateTwins.l4] at H
                                          by_cases c89 : x15_5 < (l0_1.length : Int)
                                          · rw [if_pos c89] at H
                                            have c89b0 : decide (x15_5 < (l0_1.length : Int)) = true := decide_eq_true c89
                                            clear c89
                                            by_cases c90 : 0 ≤ x15_5
                                            · rw [if_pos c90] at H
                                              have c90b0 : decide (0 ≤ x15_5) = true := decide_eq_true c90
                                              clear c90
                                              have HC91 := Aside0.mk H
                                              clear H
                                              have hcz92_0 : wr.cell? ⟨gb312, 0, none⟩ = some (.int .i64 a0_0) := (blk_cell BK312.out 0).trans rfl
                                              have hcz92_1 : wr.cell? ⟨gb312, 1, none⟩ = some (.slice A0_1 l0_1.length c0_1) := (blk_cell BK312.out 1).trans rfl
                                              have hcz92_2 : wr.cell? ⟨gb312, 2, none⟩ = some (.slice A0_2 l0_2.length c0_2) := (blk_cell BK312.out 2).trans rfl
                                              have hfz92_0 := blk_frozen BK312.out 0
                                              have hfz92_1 := blk_frozen BK312.out 1
                                              have hfz92_2 := blk_frozen BK312.out 2
                                              have p347 : 0 ≤ (x15_5 : Int) := of_decide_eq_true (by first | (with_reducible assumption) | assumption)
                                              have q347 : x15_5 < (l0_1.length : Int) := of_decide_eq_true (by first | (with_reducible assumption) | assumption)
                                              obtain ⟨ad347, e347, hx347_0, hx347_1, hx347_2⟩ := at_T40 HR0_1.out x15_5 p347 q347
                                              cases e347
                                              replace hx347_0 := (HB.out.cell (World.block_lt_of_cell? w _ hx347_0)).trans hx347_0
                                              replace hx347_1 := (HB.out.cell (World.block_lt_of_cell? w _ hx347_1)).trans hx347_1
                                              replace hx347_2 := (HB.out.cell (World.block_lt_of_cell? w _ hx347_2)).trans hx347_2
                                              replace p347 := eq_true p347
                                              replace q347 := eq_true q347
                                              go_upto_region 36 with (first | ((with_reducible refine gate_dst (N := 16) rfl ?_); (try (refine gate_guard (by rfl) ?_; dsimp only)); refine box_event ?hg (N := 16) ?hd (cs := #[.int .i64 0, .int .i64 0, .int .i64 0]) (t := 40) ?hr ?_; (case hd => rfl); (case hg => rfl); (case hr => first | (go_simp; done) | (go_simp; rfl)); intro gb348 hg w93 hbox hb; have n0_ := Aside0.mk (Kd.S_below (by (with_reducible repeat (first | apply Kd.S_alloc | apply Kd.S_drewN | apply Kd.S_drew)); exact HO_5.out) hb); have n1_ := Aside0.mk (Kd.R_below (by (with_reducible repeat (first | apply Kd.R_alloc | apply Kd.R_drewN | apply Kd.R_drew)); exact HO_11.out) hb); have n2_ := Aside0.mk (blk_below (g := gb312) (o := .cells #[.int .i64 a0_0, .slice (some ad347) l0_1.length c0_1, .slice A0_2 l0_2.length c0_2] 25 (0, 0)) (by (with_reducible repeat (first | refine blk_drewN ?_ _ | refine blk_drew ?_ | refine blk_alloc ?_ _)); exact BK312.out) hb); have n3_ := Aside0.mk (below_step (by repeat (first | (with_reducible first | exact HB.out | apply below_alloc | apply pw_below_drewN | apply below_drew1 | refine below_set ?_ GE312.out) | exact HB.out)) hb); have n4_ := Aside0.mk (hbox); have n5_ := Aside0.mk ((by rw [hg]; exact (below_size (by repeat (first | (with_reducible first | exact HB.out | apply below_alloc | apply pw_below_drewN | apply below_drew1 | refine below_set ?_ GE312.out) | exact HB.out))) : w.heap.size ≤ gb348)); have n6_ := Aside0.mk ((by rw [hg]; exact (below_size (by repeat (first | (with_reducible first | exact HB.out | apply below_alloc | apply pw_below_drewN | apply below_drew1 | refine below_set ?_ GE312.out) | exact HB.out))) : w.heap.size ≤ gb348)); have n7_ := Aside0.mk ((by rw [hg]; exact Nat.ne_of_lt (blk_lt (g := gb312) (o := .cells #[.int .i64 a0_0, .slice (some ad347) l0_1.length c0_1, .slice A0_2 l0_2.length c0_2] 25 (0, 0)) (by (with_reducible repeat (first | refine blk_drewN ?_ _ | refine blk_drew ?_ | refine blk_alloc ?_ _)); exact BK312.out)) : gb312 ≠ gb348)); have n8_ := Aside0.mk ((by rw [hg]; exact Nat.ne_of_gt (blk_lt (g := gb312) (o := .cells #[.int .i64 a0_0, .slice (some ad347) l0_1.length c0_1, .slice A0_2 l0_2.length c0_2] 25 (0, 0)) (by (with_reducible repeat (first | refine blk_drewN ?_ _ | refine blk_drew ?_ | refine blk_alloc ?_ _)); exact BK312.out)) : gb348 ≠ gb312)); clear HO_5; clear HO_11; clear BK312; clear HB; have HO_5 := n0_; have HO_11 := n1_; have BK312 := n2_; have HB := n3_; have BK348 := n4_; have GW348 := n5_; have GE348 := n6_; have NB312_348 := n7_; have NB348_312 := n8_; clear n0_ n1_ n2_ n3_ n4_ n5_ n6_ n7_ n8_; clear hb hbox hg; have hnb94 := NB348_312.out; have hnc94 := NB312_348.out; have hcz95_0 : w93.cell? ⟨gb348, 0, none⟩ = some (.int .i64 0) := (blk_cell BK348.out 0).trans rfl; have hcz95_1 : w93.cell? ⟨gb348, 1, none⟩ = some (.int .i64 0) := (blk_cell BK348.out 1).trans rfl; have hcz95_2 : w93.cell? ⟨gb348, 2, none⟩ = some (.int .i64 0) := (blk_cell BK348.out 2).trans rfl; have hfz95_0 := blk_frozen BK348.out 0; have hfz95_1 := blk_frozen BK348.out 1; have hfz95_2 := blk_frozen BK348.out 2; have hcz96_0 : w93.cell? ⟨gb312, 0, none⟩ = some (.int .i64 a0_0) := (blk_cell BK312.out 0).trans rfl; have hcz96_1 : w93.cell? ⟨gb312, 1, none⟩ = some (.slice (some ad347) l0_1.length c0_1) := (blk_cell BK312.out 1).trans rfl; have hcz96_2 : w93.cell? ⟨gb312, 2, none⟩ = some (.slice A0_2 l0_2.length c0_2) := (blk_cell BK312.out 2).trans rfl; have hfz96_0 := blk_frozen BK312.out 0; have hfz96_1 := blk_frozen BK312.out 1; have hfz96_2 := blk_frozen BK312.out 2))
                                              (try simp only [Act.put, List.setIfInBounds_toArray, List.set_cons_zero, List.set_cons_succ])
                                              go_cut [180] (fun v180 wc => ∃ (kq : Nat) (x180_90 : Bool), v180 = .bool x180_90 ∧ Aside0 (neonwrightlaw07_GateTwins.j6 kq t315 x11_4 x15_5 (wrap64 (2 * (wrap64 (a0_0 + x15_5)))) x180_90 a0_0 l0_1 l0_2 ((rd_T40 l0_1 x15_5).f0) ((rd_T40 l0_1 x15_5).f1) ((rd_T40 l0_1 x15_5).f2) = some r) ∧ Aside0 (kq ≤ k5) ∧ Aside0 (Kd.S (Kd.slice 3 (Kd.int .i64)) 23 wc w.heap.size (fun k_ => some k_ ≠ (v335 : Value).ownBlock) (.slice Ao34 t315.length co34) t315) ∧ Aside0 (Kd.R (Kd.int .i64) 3 wc w.heap.size (fun _ => True) v335 x11_4) ∧ Aside0 (wc.heap[gb312]? = some (.cells #[.int .i64 a0_0, (.slice (some ad347) l0_1.length c0_1), (.slice A0_2 l0_2.length c0_2)] 25 (0, 0))) ∧ Aside0 (wc.heap[gb348]? = some (.cells #[.int .i64 ((rd_T40 l0_1 x15_5).f0), .int .i64 ((rd_T40 l0_1 x15_5).f1), .int .i64 ((rd_T40 l0_1 x15_5).f2)] 40 (0, 0))) ∧ Aside0 (Below w.heap.size w wc))
                                              case first =>
                                                have H := HC91.out
                                                clear HC91
                                                by_cases c97 : 0 ≤ ((rd_T40 l0_1 x15_5).f1)
                                                · rw [if_pos c97] at H
                                                  have c97b0 : decide (0 ≤ ((rd_T40 l0_1 x15_5).f1)) = true := decide_eq_true c97
                                                  clear c97
                                                  (first | rw [c97b0] | (simp only [i64_w, i32_w]; rw [c97b0]) | skip)
                                                  by_cases c98 : ((rd_T40 l0_1 x15_5).f1) < (x11_4.length : Int)
                                                  · rw [if_pos c98] at H
                                                    have c98b0 : decide (((rd_T40 l0_1 x15_5).f1) < (x11_4.length : Int)) = true := decide_eq_true c98
                                                    clear c98
                                                    by_cases c99 : (rd x11_4 ((rd_T40 l0_1 x15_5).f1)) = 1
                                                    · rw [if_pos c99] at H
                                                      have c99b0 : ((rd x11_4 ((rd_T40 l0_1 x15_5).f1)) == 1) = true := beq_iff_eq.mpr c99
                                                      have c99b1 : ((rd x11_4 ((rd_T40 l0_1 x15_5).f1)) != 1) = false := bne_eq_false_iff_eq.mpr c99
                                                      clear c99
                                                      replace H := Option.bind_eq_some_iff.mp H
                                                      obtain ⟨t350, A1000, H⟩ := H
                                                      replace H : (neonwrightlaw07_GateTwins.j6 k5 t315 x11_4 x15_5 (wrap64 (2 * (wrap64 (a0_0 + x15_5)))) (!t350) a0_0 l0_1 l0_2 ((rd_T40 l0_1 x15_5).f0) ((rd_T40 l0_1 x15_5).f1) ((rd_T40 l0_1 x15_5).f2)) = some r := H
                                                      have A100 := Aside0.mk A1000
                                                      clear A1000
                                                      have H' := Aside0.mk H
                                                      clear H
                                                      have hnb101 := NB348_312.out
                                                      have hnc101 := NB312_348.out
                                                      have hcz102_0 : w93.cell? ⟨gb348, 0, none⟩ = some (.int .i64 0) := (blk_cell BK348.out 0).trans rfl
                                                      have hcz102_1 : w93.cell? ⟨gb348, 1, none⟩ = some (.int .i64 0) := (blk_cell BK348.out 1).trans rfl
                                                      have hcz102_2 : w93.cell? ⟨gb348, 2, none⟩ = some (.int .i64 0) := (blk_cell BK348.out 2).trans rfl
                                                      have hfz102_0 := blk_frozen BK348.out 0
                                                      have hfz102_1 := blk_frozen BK348.out 1
                                                      have hfz102_2 := blk_frozen BK348.out 2
                                                      obtain ⟨Ao103, co103, eo103⟩ := Kd.R_slice HO_11.out
                                                      subst eo103
                                                      have p349 : 0 ≤ (((rd_T40 l0_1 x15_5).f1) : Int) := of_decide_eq_true (by first | (with_reducible assumption) | assumption)
                                                      have q349 : ((rd_T40 l0_1 x15_5).f1) < (x11_4.length : Int) := of_decide_eq_true (by first | (with_reducible assumption) | assumption)
                                                      (try (obtain ⟨Aom_, com_, eom_⟩ := Kd.R_slice HO_11.out; subst eom_))
                                                      obtain ⟨ad349, e349, hx349_0⟩ := Kd.at_int (Kd.R_reads' HO_11.out).2.2 ((rd_T40 l0_1 x15_5).f1) p349 q349
                                                      cases e349
                                                      have hn349_0 : ad349.block ≠ gb348 := Kd.own_blk (Kd.R_ne HO_11.out BK348.out (by decide))
                                                      have hn349_1 : ad349.block ≠ gb348 := Kd.own_blk (Kd.R_ne HO_11.out BK348.out (by decide))
                                                      have hn349_2 : ad349.block ≠ gb348 := Kd.own_blk (Kd.R_ne HO_11.out BK348.out (by decide))
                                                      replace hx349_0 := (cell_far (p := ⟨gb348, 0, none⟩) (by first | (rw [add_block]; exact hn349_0) | (show (Addr.add _ _).block ≠ _; rw [add_block]; exact hn349_0) | exact hn349_0) (.int .i64 ((rd_T40 l0_1 x15_5).f0))).trans hx349_0
                                                      replace hx349_0 := (cell_far (p := ⟨gb348, 1, none⟩) (by first | (rw [add_block]; exact hn349_1) | (show (Addr.add _ _).block ≠ _; rw [add_block]; exact hn349_1) | exact hn349_1) (.int .i64 ((rd_T40 l0_1 x15_5).f1))).trans hx349_0
                                                      replace hx349_0 := (cell_far (p := ⟨gb348, 2, none⟩) (by first | (rw [add_block]; exact hn349_2) | (show (Addr.add _ _).block ≠ _; rw [add_block]; exact hn349_2) | exact hn349_2) (.int .i64 ((rd_T40 l0_1 x15_5).f2))).trans hx349_0
                                                      clear hn349_0
                                                      clear hn349_1
                                                      clear hn349_2
                                                      replace p349 := eq_true p349
                                                      replace q349 := eq_true q349
                                                      go_wp2_with (first | (go_at_call 28; (with_reducible refine (neonwrightlaw07_twin.calls k5 _ _ t315 ((rd_T40 l0_1 x15_5).f0) ((rd_T40 l0_1 x15_5).f1) (wrap64 (2 * (wrap64 (a0_0 + x15_5)))) t350 _ ?side1 ?side2 A100.out).mono ?_); (case side1 => refine (Kd.S_reads' (e := 23) (base := w.heap.size) (ok := fun k_ => some k_ ≠ (.slice (some ad349) x11_4.length co103 : Value).ownBlock) (n := t315.length) (c := co34) ?_).2.2; exact (by (with_reducible repeat (first | apply Kd.S_alloc | apply Kd.S_drewN | apply Kd.S_drew)); exact (Kd.S_mono (Kd.S_far (p := ⟨gb348, 2, none⟩) (Kd.S_far (p := ⟨gb348, 1, none⟩) (Kd.S_far (p := ⟨gb348, 0, none⟩) (Kd.S_types HO_5.out BK348.out (by decide)) (fun _ hk => hk.2) (.int .i64 ((rd_T40 l0_1 x15_5).f0))) (fun _ hk => hk.2) (.int .i64 ((rd_T40 l0_1 x15_5).f1))) (fun _ hk => hk.2) (.int .i64 ((rd_T40 l0_1 x15_5).f2))) (fun _ h_ => h_.1)))); (case side2 => exact (Kd.S_reads' HO_5.out).2.1); rintro e w' ⟨rfl, ⟨nd, rfl⟩⟩))
                                                      go_meet
                                                      case rel => exact ⟨_, (!t350), (by first | rfl | (simp; done) | (simp [*]; done)), H', ⟨by have := HK1.out; have := HJ32.out; have := HK3.out; have := HK4.out; have := HK5.out; first | omega | exact Nat.le_refl _⟩, ⟨by (with_reducible repeat (first | apply Kd.S_alloc | apply Kd.S_drewN | apply Kd.S_drew)); exact Kd.S_mono (Kd.S_far (p := ⟨gb348, 2, none⟩) (Kd.S_far (p := ⟨gb348, 1, none⟩) (Kd.S_far (p := ⟨gb348, 0, none⟩) (Kd.S_types HO_5.out BK348.out (by decide)) (fun _ hk => hk.2) (.int .i64 ((rd_T40 l0_1 x15_5).f0))) (fun _ hk => hk.2) (.int .i64 ((rd_T40 l0_1 x15_5).f1))) (fun _ hk => hk.2) (.int .i64 ((rd_T40 l0_1 x15_5).f2))) (fun _ hk => hk.1)⟩, ⟨by (with_reducible repeat (first | apply Kd.R_alloc | apply Kd.R_drewN | apply Kd.R_drew)); exact Kd.R_mono (Kd.R_far (p := ⟨gb348, 2, none⟩) (Kd.R_far (p := ⟨gb348, 1, none⟩) (Kd.R_far (p := ⟨gb348, 0, none⟩) (Kd.R_types HO_11.out BK348.out (by decide)) (fun _ hk => hk.2) (.int .i64 ((rd_T40 l0_1 x15_5).f0))) (fun _ hk => hk.2) (.int .i64 ((rd_T40 l0_1 x15_5).f1))) (fun _ hk => hk.2) (.int .i64 ((rd_T40 l0_1 x15_5).f2))) (fun _ hk => trivial)⟩, ⟨by (with_reducible repeat (first | refine blk_drewN ?_ _ | refine blk_drew ?_ | refine blk_alloc ?_ _)); refine blk_far ?_ NB312_348.out _; (with_reducible repeat (first | refine blk_drewN ?_ _ | refine blk_drew ?_ | refine blk_alloc ?_ _)); refine blk_far ?_ NB312_348.out _; (with_reducible repeat (first | refine blk_drewN ?_ _ | refine blk_drew ?_ | refine blk_alloc ?_ _)); refine blk_far ?_ NB312_348.out _; (with_reducible repeat (first | refine blk_drewN ?_ _ | refine blk_drew ?_ | refine blk_alloc ?_ _)); exact BK312.out⟩, ⟨by (with_reducible repeat (first | refine blk_drewN ?_ _ | refine blk_drew ?_ | refine blk_alloc ?_ _)); refine blk_put (cs := #[.int .i64 ((rd_T40 l0_1 x15_5).f0), .int .i64 ((rd_T40 l0_1 x15_5).f1), .int .i64 0]) ?_ 2 _ rfl; (with_reducible repeat (first | refine blk_drewN ?_ _ | refine blk_drew ?_ | refine blk_alloc ?_ _)); refine blk_put (cs := #[.int .i64 ((rd_T40 l0_1 x15_5).f0), .int .i64 0, .int .i64 0]) ?_ 1 _ rfl; (with_reducible repeat (first | refine blk_drewN ?_ _ | refine blk_drew ?_ | refine blk_alloc ?_ _)); refine blk_put (cs := #[.int .i64 0, .int .i64 0, .int .i64 0]) ?_ 0 _ rfl; (with_reducible repeat (first | refine blk_drewN ?_ _ | refine blk_drew ?_ | refine blk_alloc ?_ _)); exact BK348.out⟩, ⟨by repeat (first | (with_reducible first | exact HB.out | apply below_alloc | apply pw_below_drewN | apply below_drew1 | refine below_set ?_ GE312.out | refine below_set ?_ GE348.out) | exact HB.out)⟩⟩
                                                    · rw [if_neg c99] at H
                                                      have c99b0 : ((rd x11_4 ((rd_T40 l0_1 x15_5).f1)) == 1) = false := beq_eq_false_iff_ne.mpr c99
                                                      have c99b1 : ((rd x11_4 ((rd_T40 l0_1 x15_5).f1)) != 1) = true := bne_iff_ne.mpr c99
                                                      have H' := Aside0.mk H
                                                      clear H
                                                      have hnb104 := NB348_312.out
                                                      have hnc104 := NB312_348.out
                                                      have hcz105_0 : w93.cell? ⟨gb348, 0, none⟩ = some (.int .i64 0) := (blk_cell BK348.out 0).trans rfl
                                                      have hcz105_1 : w93.cell? ⟨gb348, 1, none⟩ = some (.int .i64 0) := (blk_cell BK348.out 1).trans rfl
                                                      have hcz105_2 : w93.cell? ⟨gb348, 2, none⟩ = some (.int .i64 0) := (blk_cell BK348.out 2).trans rfl
                                                      have hfz105_0 := blk_frozen BK348.out 0
                                                      have hfz105_1 := blk_frozen BK348.out 1
                                                      have hfz105_2 := blk_frozen BK348.out 2
                                                      obtain ⟨Ao106, co106, eo106⟩ := Kd.R_slice HO_11.out
                                                      subst eo106
                                                      have p349 : 0 ≤ (((rd_T40 l0_1 x15_5).f1) : Int) := of_decide_eq_true (by first | (with_reducible assumption) | assumption)
                                                      have q349 : ((rd_T40 l0_1 x15_5).f1) < (x11_4.length : Int) := of_decide_eq_true (by first | (with_reducible assumption) | assumption)
                                                      (try (obtain ⟨Aom_, com_, eom_⟩ := Kd.R_slice HO_11.out; subst eom_))
                                                      obtain ⟨ad349, e349, hx349_0⟩ := Kd.at_int (Kd.R_reads' HO_11.out).2.2 ((rd_T40 l0_1 x15_5).f1) p349 q349
                                                      cases e349
                                                      have hn349_0 : ad349.block ≠ gb348 := Kd.own_blk (Kd.R_ne HO_11.out BK348.out (by decide))
                                                      have hn349_1 : ad349.block ≠ gb348 := Kd.own_blk (Kd.R_ne HO_11.out BK348.out (by decide))
                                                      have hn349_2 : ad349.block ≠ gb348 := Kd.own_blk (Kd.R_ne HO_11.out BK348.out (by decide))
                                                      replace hx349_0 := (cell_far (p := ⟨gb348, 0, none⟩) (by first | (rw [add_block]; exact hn349_0) | (show (Addr.add _ _).block ≠ _; rw [add_block]; exact hn349_0) | exact hn349_0) (.int .i64 ((rd_T40 l0_1 x15_5).f0))).trans hx349_0
                                                      replace hx349_0 := (cell_far (p := ⟨gb348, 1, none⟩) (by first | (rw [add_block]; exact hn349_1) | (show (Addr.add _ _).block ≠ _; rw [add_block]; exact hn349_1) | exact hn349_1) (.int .i64 ((rd_T40 l0_1 x15_5).f1))).trans hx349_0
                                                      replace hx349_0 := (cell_far (p := ⟨gb348, 2, none⟩) (by first | (rw [add_block]; exact hn349_2) | (show (Addr.add _ _).block ≠ _; rw [add_block]; exact hn349_2) | exact hn349_2) (.int .i64 ((rd_T40 l0_1 x15_5).f2))).trans hx349_0
                                                      clear hn349_0
                                                      clear hn349_1
                                                      clear hn349_2
                                                      replace p349 := eq_true p349
                                                      replace q349 := eq_true q349
                                                      go_wp2
                                                      go_meet
                                                      case rel => exact ⟨_, (false), (by first | rfl | (simp; done) | (simp [*]; done)), H', ⟨by have := HK1.out; have := HJ32.out; have := HK3.out; have := HK4.out; have := HK5.out; first | omega | exact Nat.le_refl _⟩, ⟨by (with_reducible repeat (first | apply Kd.S_alloc | apply Kd.S_drewN | apply Kd.S_drew)); exact Kd.S_mono (Kd.S_far (p := ⟨gb348, 2, none⟩) (Kd.S_far (p := ⟨gb348, 1, none⟩) (Kd.S_far (p := ⟨gb348, 0, none⟩) (Kd.S_types HO_5.out BK348.out (by decide)) (fun _ hk => hk.2) (.int .i64 ((rd_T40 l0_1 x15_5).f0))) (fun _ hk => hk.2) (.int .i64 ((rd_T40 l0_1 x15_5).f1))) (fun _ hk => hk.2) (.int .i64 ((rd_T40 l0_1 x15_5).f2))) (fun _ hk => hk.1)⟩, ⟨by (with_reducible repeat (first | apply Kd.R_alloc | apply Kd.R_drewN | apply Kd.R_drew)); exact Kd.R_mono (Kd.R_far (p := ⟨gb348, 2, none⟩) (Kd.R_far (p := ⟨gb348, 1, none⟩) (Kd.R_far (p := ⟨gb348, 0, none⟩) (Kd.R_types HO_11.out BK348.out (by decide)) (fun _ hk => hk.2) (.int .i64 ((rd_T40 l0_1 x15_5).f0))) (fun _ hk => hk.2) (.int .i64 ((rd_T40 l0_1 x15_5).f1))) (fun _ hk => hk.2) (.int .i64 ((rd_T40 l0_1 x15_5).f2))) (fun _ hk => trivial)⟩, ⟨by (with_reducible repeat (first | refine blk_drewN ?_ _ | refine blk_drew ?_ | refine blk_alloc ?_ _)); refine blk_far ?_ NB312_348.out _; (with_reducible repeat (first | refine blk_drewN ?_ _ | refine blk_drew ?_ | refine blk_alloc ?_ _)); refine blk_far ?_ NB312_348.out _; (with_reducible repeat (first | refine blk_drewN ?_ _ | refine blk_drew ?_ | refine blk_alloc ?_ _)); refine blk_far ?_ NB312_348.out _; (with_reducible repeat (first | refine blk_drewN ?_ _ | refine blk_drew ?_ | refine blk_alloc ?_ _)); exact BK312.out⟩, ⟨by (with_reducible repeat (first | refine blk_drewN ?_ _ | refine blk_drew ?_ | refine blk_alloc ?_ _)); refine blk_put (cs := #[.int .i64 ((rd_T40 l0_1 x15_5).f0), .int .i64 ((rd_T40 l0_1 x15_5).f1), .int .i64 0]) ?_ 2 _ rfl; (with_reducible repeat (first | refine blk_drewN ?_ _ | refine blk_drew ?_ | refine blk_alloc ?_ _)); refine blk_put (cs := #[.int .i64 ((rd_T40 l0_1 x15_5).f0), .int .i64 0, .int .i64 0]) ?_ 1 _ rfl; (with_reducible repeat (first | refine blk_drewN ?_ _ | refine blk_drew ?_ | refine blk_alloc ?_ _)); refine blk_put (cs := #[.int .i64 0, .int .i64 0, .int .i64 0]) ?_ 0 _ rfl; (with_reducible repeat (first | refine blk_drewN ?_ _ | refine blk_drew ?_ | refine blk_alloc ?_ _)); exact BK348.out⟩, ⟨by repeat (first | (with_reducible first | exact HB.out | apply below_alloc | apply pw_below_drewN | apply below_drew1 | refine below_set ?_ GE312.out | refine below_set ?_ GE348.out) | exact HB.out)⟩⟩
                                                  · rw [if_neg c98] at H
                                                    exact absurd H (by simp)
                                                · rw [if_neg c97] at H
                                                  exact absurd H (by simp)
                                              case rest =>
                                                clear HC91
                                                try clear c1
                                                try clear c2
                                                try clear p2
                                                try clear c3
                                                try clear p3
                                                try clear q3
                                                try clear hx3
                                                try clear qi3
                                                try clear c4
                                                try clear c5
                                                try clear p5
                                                try clear q5
                                                try clear hx5
                                                try clear hf5
                                                try clear c6
                                                try clear p6
                                                try clear q6
                                                try clear hx6
                                                try clear hf6
                                                try clear c7
                                                try clear p7
                                                try clear q7
                                                try clear hx7
                                                try clear hf7
                                                try clear c8
                                                try clear c9
                                                try clear c10
                                                try clear c18
                                                try clear c18b0
                                                try clear c19
                                                try clear c21
                                                try clear c22
                                                try clear c23
                                                try clear c23b0
                                                try clear c24
                                                try clear c26
                                                try clear c27
                                                try clear c28
                                                try clear c28b0
                                                try clear c28b1
                                                try clear c28b2
                                                try clear c32
                                                try clear p32
                                                try clear q32
                                                try clear hx32
                                                try clear p33
                                                try clear q33
                                                try clear hx33
                                                try clear qi33
                                                try clear p34
                                                try clear q34
                                                try clear hx34
                                                try clear c35
                                                try clear c35b0
                                                try clear c35b1
                                                try clear c39
                                                try clear c41
                                                try clear c41b0
                                                try clear c41b1
                                                try clear c42
                                                try clear c42b0
                                                try clear c42b1
                                                try clear c47
                                                try clear c47b0
                                                try clear c48
                                                try clear c48b0
                                                try clear c49
                                                try clear c49b0
                                                try clear c50
                                                try clear c50b0
                                                try clear p51
                                                try clear q51
                                                try clear hx51
                                                try clear hf51
                                                try clear c57
                                                try clear c57b0
                                                try clear c58
                                                try clear c58b0
                                                try clear c59
                                                try clear c59b0
                                                try clear c60
                                                try clear c60b0
                                                try clear p61
                                                try clear q61
                                                try clear hx61
                                                try clear hf61
                                                try clear c62
                                                try clear c62b0
                                                try clear c62b1
                                                try clear p64
                                                try clear c65
                                                try clear c73
                                                try clear c73b0
                                                try clear c74
                                                try clear c74b0
                                                try clear p75
                                                try clear q75
                                                try clear hx75
                                                try clear hf75
                                                try clear c78
                                                try clear c89
                                                try clear c89b0
                                                try clear c90
                                                try clear c90b0
                                                try clear c94
                                                try clear c97
                                                try clear c97b0
                                                try clear c98
                                                try clear c98b0
                                                try clear c99
                                                try clear c99b0
                                                try clear c99b1
                                                try clear c101
                                                try clear c104
                                                try clear hcz102_0
                                                try clear hcz102_1
                                                try clear hcz102_2
                                                try clear hcz105_0
                                                try clear hcz105_1
                                                try clear hcz105_2
                                                try clear hcz37_0
                                                try clear hcz37_1
                                                try clear hcz37_2
                                                try clear hcz43_0
                                                try clear hcz43_1
                                                try clear hcz43_2
                                                try clear hcz52_0
                                                try clear hcz52_1
                                                try clear hcz52_2
                                                try clear hcz56_0
                                                try clear hcz56_1
                                                try clear hcz56_2
                                                try clear hcz63_0
                                                try clear hcz63_1
                                                try clear hcz63_2
                                                try clear hcz66_0
                                                try clear hcz66_1
                                                try clear hcz66_2
                                                try clear hcz68_0
                                                try clear hcz68_1
                                                try clear hcz68_2
                                                try clear hcz72_0
                                                try clear hcz72_1
                                                try clear hcz72_2
                                                try clear hcz76_0
                                                try clear hcz76_1
                                                try clear hcz76_2
                                                try clear hcz79_0
                                                try clear hcz79_1
                                                try clear hcz79_2
                                                try clear hcz81_0
                                                try clear hcz81_1
                                                try clear hcz81_2
                                                try clear hcz85_0
                                                try clear hcz85_1
                                                try clear hcz85_2
                                                try clear hcz88_0
                                                try clear hcz88_1
                                                try clear hcz88_2
                                                try clear hcz92_0
                                                try clear hcz92_1
                                                try clear hcz92_2
                                                try clear hcz95_0
                                                try clear hcz95_1
                                                try clear hcz95_2
                                                try clear hcz96_0
                                                try clear hcz96_1
                                                try clear hcz96_2
                                                try clear hfz102_0
                                                try clear hfz102_1
                                                try clear hfz102_2
                                                try clear hfz105_0
                                                try clear hfz105_1
                                                try clear hfz105_2
                                                try clear hfz37_0
                                                try clear hfz37_1
                                                try clear hfz37_2
                                                try clear hfz43_0
                                                try clear hfz43_1
                                                try clear hfz43_2
                                                try clear hfz52_0
                                                try clear hfz52_1
                                                try clear hfz52_2
                                                try clear hfz56_0
                                                try clear hfz56_1
                                                try clear hfz56_2
                                                try clear hfz63_0
                                                try clear hfz63_1
                                                try clear hfz63_2
                                                try clear hfz66_0
                                                try clear hfz66_1
                                                try clear hfz66_2
                                                try clear hfz68_0
                                                try clear hfz68_1
                                                try clear hfz68_2
                                                try clear hfz72_0
                                                try clear hfz72_1
                                                try clear hfz72_2
                                                try clear hfz76_0
                                                try clear hfz76_1
                                                try clear hfz76_2
                                                try clear hfz79_0
                                                try clear hfz79_1
                                                try clear hfz79_2
                                                try clear hfz81_0
                                                try clear hfz81_1
                                                try clear hfz81_2
                                                try clear hfz85_0
                                                try clear hfz85_1
                                                try clear hfz85_2
                                                try clear hfz88_0
                                                try clear hfz88_1
                                                try clear hfz88_2
                                                try clear hfz92_0
                                                try clear hfz92_1
                                                try clear hfz92_2
                                                try clear hfz95_0
                                                try clear hfz95_1
                                                try clear hfz95_2
                                                try clear hfz96_0
                                                try clear hfz96_1
                                                try clear hfz96_2
                                                try clear hx325_0
                                                try clear hx326_0
                                                try clear hx327_0
                                                try clear hx329_0
                                                try clear hx330_0
                                                try clear hx337_0
                                                try clear hx338_0
                                                try clear hx340_0
                                                try clear hx340_1
                                                try clear hx340_2
                                                try clear hx342_0
                                                try clear hx344_0
                                                try clear hx347_0
                                                try clear hx347_1
                                                try clear hx347_2
                                                try clear hx349_0
                                                try clear hx51_0
                                                try clear hx61_0
                                                try clear hx75_0
                                                try clear p2
                                                try clear p3
                                                try clear p32
                                                try clear p325
                                                try clear p326
                                                try clear p327
                                                try clear p329
                                                try clear p33
                                                try clear p330
                                                try clear p337
                                                try clear p338
                                                try clear p34
                                                try clear p340
                                                try clear p342
                                                try clear p344
                                                try clear p347
                                                try clear p349
                                                try clear p5
                                                try clear p51
                                                try clear p6
                                                try clear p61
                                                try clear p64
                                                try clear p7
                                                try clear p75
                                                try clear q3
                                                try clear q32
                                                try clear q325
                                                try clear q326
                                                try clear q327
                                                try clear q329
                                                try clear q33
                                                try clear q330
                                                try clear q337
                                                try clear q338
                                                try clear q34
                                                try clear q340
                                                try clear q342
                                                try clear q344
                                                try clear q347
                                                try clear q349
                                                try clear q5
                                                try clear q51
                                                try clear q6
                                                try clear q61
                                                try clear q7
                                                try clear q75
                                                obtain ⟨kq, x180_90, rfl, HA, HJ90, HO_5, HO_11, BK312, BK348, HB⟩ := hcut
                                                cases kq with
                                                | zero => exact absurd HA.out (by simp [neonwrightlaw07_GateTwins.j6])
                                                | succ kj90 =>
                                                  have H := HA.out
                                                  clear HA
                                                  simp only [neonwrightlaw07_GateTwins.j6] at H
                                                  by_cases c107 : x180_90 = true
                                                  · subst c107
                                                    have H1 : (some false) = some r := by rw [if_pos rfl] at H; exact H
                                                    clear H
                                                    have H := H1
                                                    clear H1
                                                    obtain rfl := Option.some.inj H
                                                    go_wp2
                                                    go_ret
                                                    exact ⟨by first | rfl | (simp [errW_none, errW_some] <;> rfl) | (simp only [← hji8]; first | rfl | (simp [errW_none, errW_some] <;> rfl)) | (simp [*, errW_none, errW_some] <;> rfl), by repeat (first | (with_reducible first | exact HB.out | apply below_alloc | apply pw_below_drewN | apply below_drew1 | refine below_set ?_ GE312.out | refine below_set ?_ GE348.out) | exact HB.out)⟩
                                                  · replace c107 := Bool.eq_false_iff.mpr c107
                                                    subst c107
                                                    have H1 : (if ((rd_T40 l0_1 x15_5).f0) = 5 then (neonwrightlaw07_GateTwins.l4 kj90 t315 x11_4 (wrap64 (x15_5 + 1)) a0_0 l0_1 l0_2) else (if 0 ≤ ((rd_T40 l0_1 x15_5).f2) then (if ((rd_T40 l0_1 x15_5).f2) < (x11_4.length : Int) then (if (rd x11_4 ((rd_T40 l0_1 x15_5).f2)) = 1 then ((neonwrightlaw07_twin.f kj90 t315 ((rd_T40 l0_1 x15_5).f0) ((rd_T40 l0_1 x15_5).f2) (wrap64 (2 * (wrap64 (a0_0 + x15_5))))).bind fun t352 => (if t352 = true then (neonwrightlaw07_GateTwins.l4 kj90 t315 x11_4 (wrap64 (x15_5 + 1)) a0_0 l0_1 l0_2) else (some false))) else (neonwrightlaw07_GateTwins.l4 kj90 t315 x11_4 (wrap64 (x15_5 + 1)) a0_0 l0_1 l0_2)) else (none)) else (none))) = some r := by rw [if_neg (show ¬ (false = true) by decide)] at H; exact H
                                                    clear H
                                                    have H := H1
                                                    clear H1
                                                    by_cases c108 : ((rd_T40 l0_1 x15_5).f0) = 5
                                                    · rw [if_pos c108] at H
                                                      have c108b0 : (((rd_T40 l0_1 x15_5).f0) == 5) = true := beq_iff_eq.mpr c108
                                                      have c108b1 : (((rd_T40 l0_1 x15_5).f0) != 5) = false := bne_eq_false_iff_eq.mpr c108
                                                      clear c108
                                                      have H' := Aside0.mk H
                                                      clear H
                                                      have hnb109 := NB348_312.out
                                                      have hnc109 := NB312_348.out
                                                      have hcz110_0 : wc.cell? ⟨gb348, 0, none⟩ = some (.int .i64 ((rd_T40 l0_1 x15_5).f0)) := (blk_cell BK348.out 0).trans rfl
                                                      have hcz110_1 : wc.cell? ⟨gb348, 1, none⟩ = some (.int .i64 ((rd_T40 l0_1 x15_5).f1)) := (blk_cell BK348.out 1).trans rfl
                                                      have hcz110_2 : wc.cell? ⟨gb348, 2, none⟩ = some (.int .i64 ((rd_T40 l0_1 x15_5).f2)) := (blk_cell BK348.out 2).trans rfl
                                                      have hfz110_0 := blk_frozen BK348.out 0
                                                      have hfz110_1 := blk_frozen BK348.out 1
                                                      have hfz110_2 := blk_frozen BK348.out 2
                                                      go_wp2
                                                      go_roundg kj90
                                                      case measure => have := HK1.out; have := HJ32.out; have := HK3.out; have := HK4.out; have := HK5.out; have := HJ90.out; omega
                                                      case rel => exact ⟨(wrap64 (x15_5 + 1)), (by first | rfl | (simp; done) | (simp [*]; done)), H', ⟨by have := HK1.out; have := HJ32.out; have := HK3.out; have := HK4.out; have := HK5.out; have := HJ90.out; omega⟩, ⟨by (with_reducible repeat (first | apply Kd.S_alloc | apply Kd.S_drewN | apply Kd.S_drew)); first | exact HO_5.out | exact Kd.R_mono HO_5.out (fun k_ h_ => ne_own_len h_)⟩, ⟨by (with_reducible repeat (first | apply Kd.R_alloc | apply Kd.R_drewN | apply Kd.R_drew)); first | exact HO_11.out | exact Kd.R_mono HO_11.out (fun k_ h_ => ne_own_len h_)⟩, ⟨by (with_reducible repeat (first | refine blk_drewN ?_ _ | refine blk_drew ?_ | refine blk_alloc ?_ _)); exact BK312.out⟩, ⟨by repeat (first | (with_reducible first | exact HB.out | apply below_alloc | apply pw_below_drewN | apply below_drew1 | refine below_set ?_ GE312.out | refine below_set ?_ GE348.out) | exact HB.out)⟩⟩
                                                    · rw [if_neg c108] at H
                                                      have c108b0 : (((rd_T40 l0_1 x15_5).f0) == 5) = false := beq_eq_false_iff_ne.mpr c108
                                                      have c108b1 : (((rd_T40 l0_1 x15_5).f0) != 5) = true := bne_iff_ne.mpr c108
                                                      by_cases c111 : 0 ≤ ((rd_T40 l0_1 x15_5).f2)
                                                      · rw [if_pos c111] at H
                                                        have c111b0 : decide (0 ≤ ((rd_T40 l0_1 x15_5).f2)) = true := decide_eq_true c111
                                                        clear c111
                                                        by_cases c112 : ((rd_T40 l0_1 x15_5).f2) < (x11_4.length : Int)
                                                        · rw [if_pos c112] at H
                                                          have c112b0 : decide (((rd_T40 l0_1 x15_5).f2) < (x11_4.length : Int)) = true := decide_eq_true c112
                                                          clear c112
                                                          by_cases c113 : (rd x11_4 ((rd_T40 l0_1 x15_5).f2)) = 1
                                                          · rw [if_pos c113] at H
                                                            have c113b0 : ((rd x11_4 ((rd_T40 l0_1 x15_5).f2)) == 1) = true := beq_iff_eq.mpr c113
                                                            have c113b1 : ((rd x11_4 ((rd_T40 l0_1 x15_5).f2)) != 1) = false := bne_eq_false_iff_eq.mpr c113
                                                            clear c113
                                                            replace H := Option.bind_eq_some_iff.mp H
                                                            obtain ⟨t352, A1140, H⟩ := H
                                                            replace H : (if t352 = true then (neonwrightlaw07_GateTwins.l4 kj90 t315 x11_4 (wrap64 (x15_5 + 1)) a0_0 l0_1 l0_2) else (some false)) = some r := H
                                                            have A114 := Aside0.mk A1140
                                                            clear A1140
                                                            by_cases c115 : t352 = true
                                                            · subst c115
                                                              have H1 : (neonwrightlaw07_GateTwins.l4 kj90 t315 x11_4 (wrap64 (x15_5 + 1)) a0_0 l0_1 l0_2) = some r := by rw [if_pos rfl] at H; exact H
                                                              clear H
                                                              have H := H1
                                                              clear H1
                                                              have H' := Aside0.mk H
                                                              clear H
                                                              have hnb116 := NB348_312.out
                                                              have hnc116 := NB312_348.out
                                                              have hcz117_0 : wc.cell? ⟨gb348, 0, none⟩ = some (.int .i64 ((rd_T40 l0_1 x15_5).f0)) := (blk_cell BK348.out 0).trans rfl
                                                              have hcz117_1 : wc.cell? ⟨gb348, 1, none⟩ = some (.int .i64 ((rd_T40 l0_1 x15_5).f1)) := (blk_cell BK348.out 1).trans rfl
                                                              have hcz117_2 : wc.cell? ⟨gb348, 2, none⟩ = some (.int .i64 ((rd_T40 l0_1 x15_5).f2)) := (blk_cell BK348.out 2).trans rfl
                                                              have hfz117_0 := blk_frozen BK348.out 0
                                                              have hfz117_1 := blk_frozen BK348.out 1
                                                              have hfz117_2 := blk_frozen BK348.out 2
                                                              obtain ⟨Ao118, co118, eo118⟩ := Kd.R_slice HO_11.out
                                                              subst eo118
                                                              have p351 : 0 ≤ (((rd_T40 l0_1 x15_5).f2) : Int) := of_decide_eq_true (by first | (with_reducible assumption) | assumption)
                                                              have q351 : ((rd_T40 l0_1 x15_5).f2) < (x11_4.length : Int) := of_decide_eq_true (by first | (with_reducible assumption) | assumption)
                                                              (try (obtain ⟨Aom_, com_, eom_⟩ := Kd.R_slice HO_11.out; subst eom_))
                                                              obtain ⟨ad351, e351, hx351_0⟩ := Kd.at_int (Kd.R_reads' HO_11.out).2.2 ((rd_T40 l0_1 x15_5).f2) p351 q351
                                                              cases e351
                                                              replace p351 := eq_true p351
                                                              replace q351 := eq_true q351
                                                              go_wp2_with (first | (go_at_call 28; (with_reducible refine (neonwrightlaw07_twin.calls kj90 _ _ t315 ((rd_T40 l0_1 x15_5).f0) ((rd_T40 l0_1 x15_5).f2) (wrap64 (2 * (wrap64 (a0_0 + x15_5)))) true _ ?side1 ?side2 A114.out).mono ?_); (case side1 => repeat (first | exact (Kd.S_reads' HO_5.out).2.2 | (with_reducible refine Kd.C_alloc ?_ _) | (with_reducible refine Kd.C_drewN ?_ _) | (with_reducible refine Kd.C_drew ?_))); (case side2 => exact (Kd.S_reads' HO_5.out).2.1); rintro e w' ⟨rfl, ⟨nd, rfl⟩⟩))
                                                              go_roundg kj90
                                                              case measure => have := HK1.out; have := HJ32.out; have := HK3.out; have := HK4.out; have := HK5.out; have := HJ90.out; omega
                                                              case rel => exact ⟨(wrap64 (x15_5 + 1)), (by first | rfl | (simp; done) | (simp [*]; done)), H', ⟨by have := HK1.out; have := HJ32.out; have := HK3.out; have := HK4.out; have := HK5.out; have := HJ90.out; omega⟩, ⟨by (with_reducible repeat (first | apply Kd.S_alloc | apply Kd.S_drewN | apply Kd.S_drew)); first | exact HO_5.out | exact Kd.R_mono HO_5.out (fun k_ h_ => ne_own_len h_)⟩, ⟨by (with_reducible repeat (first | apply Kd.R_alloc | apply Kd.R_drewN | apply Kd.R_drew)); first | exact HO_11.out | exact Kd.R_mono HO_11.out (fun k_ h_ => ne_own_len h_)⟩, ⟨by (with_reducible repeat (first | refine blk_drewN ?_ _ | refine blk_drew ?_ | refine blk_alloc ?_ _)); exact BK312.out⟩, ⟨by repeat (first | (with_reducible first | exact HB.out | apply below_alloc | apply pw_below_drewN | apply below_drew1 | refine below_set ?_ GE312.out | refine below_set ?_ GE348.out) | exact HB.out)⟩⟩
                                                            · replace c115 := Bool.eq_false_iff.mpr c115
                                                              subst c115
                                                              have H1 : (some false) = some r := by rw [if_neg (show ¬ (false = true) by decide)] at H; exact H
                                                              clear H
                                                              have H := H1
                                                              clear H1
                                                              obtain rfl := Option.some.inj H
                                                              have hnb119 := NB348_312.out
                                                              have hnc119 := NB312_348.out
                                                              have hcz120_0 : wc.cell? ⟨gb348, 0, none⟩ = some (.int .i64 ((rd_T40 l0_1 x15_5).f0)) := (blk_cell BK348.out 0).trans rfl
                                                              have hcz120_1 : wc.cell? ⟨gb348, 1, none⟩ = some (.int .i64 ((rd_T40 l0_1 x15_5).f1)) := (blk_cell BK348.out 1).trans rfl
                                                              have hcz120_2 : wc.cell? ⟨gb348, 2, none⟩ = some (.int .i64 ((rd_T40 l0_1 x15_5).f2)) := (blk_cell BK348.out 2).trans rfl
                                                              have hfz120_0 := blk_frozen BK348.out 0
                                                              have hfz120_1 := blk_frozen BK348.out 1
                                                              have hfz120_2 := blk_frozen BK348.out 2
                                                              obtain ⟨Ao121, co121, eo121⟩ := Kd.R_slice HO_11.out
                                                              subst eo121
                                                              have p351 : 0 ≤ (((rd_T40 l0_1 x15_5).f2) : Int) := of_decide_eq_true (by first | (with_reducible assumption) | assumption)
                                                              have q351 : ((rd_T40 l0_1 x15_5).f2) < (x11_4.length : Int) := of_decide_eq_true (by first | (with_reducible assumption) | assumption)
                                                              (try (obtain ⟨Aom_, com_, eom_⟩ := Kd.R_slice HO_11.out; subst eom_))
                                                              obtain ⟨ad351, e351, hx351_0⟩ := Kd.at_int (Kd.R_reads' HO_11.out).2.2 ((rd_T40 l0_1 x15_5).f2) p351 q351
                                                              cases e351
                                                              replace p351 := eq_true p351
                                                              replace q351 := eq_true q351
                                                              go_wp2_with (first | (go_at_call 28; (with_reducible refine (neonwrightlaw07_twin.calls kj90 _ _ t315 ((rd_T40 l0_1 x15_5).f0) ((rd_T40 l0_1 x15_5).f2) (wrap64 (2 * (wrap64 (a0_0 + x15_5)))) false _ ?side1 ?side2 A114.out).mono ?_); (case side1 => repeat (first | exact (Kd.S_reads' HO_5.out).2.2 | (with_reducible refine Kd.C_alloc ?_ _) | (with_reducible refine Kd.C_drewN ?_ _) | (with_reducible refine Kd.C_drew ?_))); (case side2 => exact (Kd.S_reads' HO_5.out).2.1); rintro e w' ⟨rfl, ⟨nd, rfl⟩⟩))
                                                              go_ret
                                                              exact ⟨by first | rfl | (simp [errW_none, errW_some] <;> rfl) | (simp only [← hji8]; first | rfl | (simp [errW_none, errW_some] <;> rfl)) | (simp [*, errW_none, errW_some] <;> rfl), by repeat (first | (with_reducible first | exact HB.out | apply below_alloc | apply pw_below_drewN | apply below_drew1 | refine below_set ?_ GE312.out | refine below_set ?_ GE348.out) | exact HB.out)⟩
                                                          · rw [if_neg c113] at H
                                                            have c113b0 : ((rd x11_4 ((rd_T40 l0_1 x15_5).f2)) == 1) = false := beq_eq_false_iff_ne.mpr c113
                                                            have c113b1 : ((rd x11_4 ((rd_T40 l0_1 x15_5).f2)) != 1) = true := bne_iff_ne.mpr c113
                                                            have H' := Aside0.mk H
                                                            clear H
                                                            have hnb122 := NB348_312.out
                                                            have hnc122 := NB312_348.out
                                                            have hcz123_0 : wc.cell? ⟨gb348, 0, none⟩ = some (.int .i64 ((rd_T40 l0_1 x15_5).f0)) := (blk_cell BK348.out 0).trans rfl
                                                            have hcz123_1 : wc.cell? ⟨gb348, 1, none⟩ = some (.int .i64 ((rd_T40 l0_1 x15_5).f1)) := (blk_cell BK348.out 1).trans rfl
                                                            have hcz123_2 : wc.cell? ⟨gb348, 2, none⟩ = some (.int .i64 ((rd_T40 l0_1 x15_5).f2)) := (blk_cell BK348.out 2).trans rfl
                                                            have hfz123_0 := blk_frozen BK348.out 0
                                                            have hfz123_1 := blk_frozen BK348.out 1
                                                            have hfz123_2 := blk_frozen BK348.out 2
                                                            obtain ⟨Ao124, co124, eo124⟩ := Kd.R_slice HO_11.out
                                                            subst eo124
                                                            have p351 : 0 ≤ (((rd_T40 l0_1 x15_5).f2) : Int) := of_decide_eq_true (by first | (with_reducible assumption) | assumption)
                                                            have q351 : ((rd_T40 l0_1 x15_5).f2) < (x11_4.length : Int) := of_decide_eq_true (by first | (with_reducible assumption) | assumption)
                                                            (try (obtain ⟨Aom_, com_, eom_⟩ := Kd.R_slice HO_11.out; subst eom_))
                                                            obtain ⟨ad351, e351, hx351_0⟩ := Kd.at_int (Kd.R_reads' HO_11.out).2.2 ((rd_T40 l0_1 x15_5).f2) p351 q351
                                                            cases e351
                                                            replace p351 := eq_true p351
                                                            replace q351 := eq_true q351
                                                            go_wp2
                                                            go_roundg kj90
                                                            case measure => have := HK1.out; have := HJ32.out; have := HK3.out; have := HK4.out; have := HK5.out; have := HJ90.out; omega
                                                            case rel => exact ⟨(wrap64 (x15_5 + 1)), (by first | rfl | (simp; done) | (simp [*]; done)), H', ⟨by have := HK1.out; have := HJ32.out; have := HK3.out; have := HK4.out; have := HK5.out; have := HJ90.out; omega⟩, ⟨by (with_reducible repeat (first | apply Kd.S_alloc | apply Kd.S_drewN | apply Kd.S_drew)); first | exact HO_5.out | exact Kd.R_mono HO_5.out (fun k_ h_ => ne_own_len h_)⟩, ⟨by (with_reducible repeat (first | apply Kd.R_alloc | apply Kd.R_drewN | apply Kd.R_drew)); first | exact HO_11.out | exact Kd.R_mono HO_11.out (fun k_ h_ => ne_own_len h_)⟩, ⟨by (with_reducible repeat (first | refine blk_drewN ?_ _ | refine blk_drew ?_ | refine blk_alloc ?_ _)); exact BK312.out⟩, ⟨by repeat (first | (with_reducible first | exact HB.out | apply below_alloc | apply pw_below_drewN | apply below_drew1 | refine below_set ?_ GE312.out | refine below_set ?_ GE348.out) | exact HB.out)⟩⟩
                                                        · rw [if_neg c112] at H
                                                          exact absurd H (by simp)
                                                      · rw [if_neg c111] at H
                                                        exact absurd H (by simp)
                                            · rw [if_neg c90] at H
                                              exact absurd H (by simp)
                                          · rw [if_neg c89] at H
                                            have c89b0 : decide (x15_5 < (l0_1.length : Int)) = false := decide_eq_false c89
                                            clear c89
                                            replace H := Option.bind_eq_some_iff.mp H
                                            obtain ⟨t346, A1250, H⟩ := H
                                            replace H : (some t346) = some r := H
                                            have A125 := Aside0.mk A1250
                                            clear A1250
                                            obtain rfl := Option.some.inj H
                                            have hcz126_0 : wr.cell? ⟨gb312, 0, none⟩ = some (.int .i64 a0_0) := (blk_cell BK312.out 0).trans rfl
                                            have hcz126_1 : wr.cell? ⟨gb312, 1, none⟩ = some (.slice A0_1 l0_1.length c0_1) := (blk_cell BK312.out 1).trans rfl
                                            have hcz126_2 : wr.cell? ⟨gb312, 2, none⟩ = some (.slice A0_2 l0_2.length c0_2) := (blk_cell BK312.out 2).trans rfl
                                            have hfz126_0 := blk_frozen BK312.out 0
                                            have hfz126_1 := blk_frozen BK312.out 1
                                            have hfz126_2 := blk_frozen BK312.out 2
                                            go_wp2_with (first | ((with_reducible refine gate_callee (f := 16) rfl ?_); refine goesL_ (some 202) rfl rfl Try.func16 (by kernel_rfl) rfl #[] rfl (by (try simp only [List.map_toArray, List.map_cons, List.map_nil]); first | done | rfl | (simp only [List.length_drop, List.length_take]; rfl)) ?_; (with_reducible refine (neonwrightlaw07_alive.calls  t346 _ A125.out).mono ?_); rintro e w127 ⟨rfl, hb⟩; refine ⟨_, rfl, ?_⟩; have n0_ := Aside0.mk (Kd.S_below (by (with_reducible repeat (first | apply Kd.S_alloc | apply Kd.S_drewN | apply Kd.S_drew)); exact HO_5.out) hb); have n1_ := Aside0.mk (Kd.R_below (by (with_reducible repeat (first | apply Kd.R_alloc | apply Kd.R_drewN | apply Kd.R_drew)); exact HO_11.out) hb); have n2_ := Aside0.mk (blk_below (g := gb312) (o := .cells #[.int .i64 a0_0, .slice A0_1 l0_1.length c0_1, .slice A0_2 l0_2.length c0_2] 25 (0, 0)) (by (with_reducible repeat (first | refine blk_drewN ?_ _ | refine blk_drew ?_ | refine blk_alloc ?_ _)); exact BK312.out) hb); have n3_ := Aside0.mk (below_step (by repeat (first | (with_reducible first | exact HB.out | apply below_alloc | apply pw_below_drewN | apply below_drew1 | refine below_set ?_ GE312.out) | exact HB.out)) hb); clear HO_5; clear HO_11; clear BK312; clear HB; have HO_5 := n0_; have HO_11 := n1_; have BK312 := n2_; have HB := n3_; clear n0_ n1_ n2_ n3_; (try clear hb); (try clear hb2); (try clear hk); (try clear hi)))
                                            go_ret
                                            exact ⟨by first | rfl | (simp [errW_none, errW_some] <;> rfl) | (simp only [← hji8]; first | rfl | (simp [errW_none, errW_some] <;> rfl)) | (simp [*, errW_none, errW_some] <;> rfl), by repeat (first | (with_reducible first | exact HB.out | apply below_alloc | apply pw_below_drewN | apply below_drew1 | refine below_set ?_ GE312.out) | exact HB.out)⟩
                        · rw [if_neg c42] at H
                          exact absurd H (by simp)
                      · rw [if_neg c41] at H
                        exact absurd H (by simp)
      · rw [if_neg c7] at H
        exact absurd H (by simp)
    · rw [if_neg c6] at H
      have c6b0 : (t318 == 0) = false := beq_eq_false_iff_ne.mpr c6
      have c6b1 : (t318 != 0) = true := bne_iff_ne.mpr c6
      by_cases c128 : t318 = 2
      · rw [if_pos c128] at H
        have c128b0 : (t318 == 2) = true := beq_iff_eq.mpr c128
        have c128b1 : (t318 != 2) = false := bne_eq_false_iff_eq.mpr c128
        clear c128
        by_cases c129 : (t315.length : Int) = 0
        · rw [if_pos c129] at H
          have c129b0 : ((t315.length : Int) == 0) = true := beq_iff_eq.mpr c129
          have c129b1 : ((t315.length : Int) != 0) = false := bne_eq_false_iff_eq.mpr c129
          clear c129
          replace H := Option.bind_eq_some_iff.mp H
          obtain ⟨t319, A1300, H⟩ := H
          replace H : (some t319) = some r := H
          have A130 := Aside0.mk A1300
          clear A1300
          obtain rfl := Option.some.inj H
          go_enter Try.func5, Try.ntmps5
          go_wp2_with (first | ((with_reducible refine gate_dst (N := 2) rfl ?_); (try (refine gate_guard (by rfl) ?_; dsimp only)); refine box_event ?hg (N := 2) ?hd (cs := #[.int .i64 a0_0, .slice A0_1 l0_1.length c0_1, .slice A0_2 l0_2.length c0_2]) (t := 25) ?hr ?_; (case hd => rfl); (case hg => rfl); (case hr => first | (go_simp; done) | (go_simp; rfl)); intro gb312 hg w131 hbox hb; have n0_ := Aside0.mk (below_step (by repeat (first | (with_reducible first | exact HB.out | apply below_alloc | apply pw_below_drewN | apply below_drew1) | exact HB.out)) hb); have n1_ := Aside0.mk (hbox); have n2_ := Aside0.mk ((by rw [hg]; exact (below_size (by repeat (first | (with_reducible first | exact HB.out | apply below_alloc | apply pw_below_drewN | apply below_drew1) | exact HB.out))) : w.heap.size ≤ gb312)); have n3_ := Aside0.mk ((by rw [hg]; exact (below_size (by repeat (first | (with_reducible first | exact HB.out | apply below_alloc | apply pw_below_drewN | apply below_drew1) | exact HB.out))) : w.heap.size ≤ gb312)); clear HB; have HB := n0_; have BK312 := n1_; have GW312 := n2_; have GE312 := n3_; clear n0_ n1_ n2_ n3_; clear hb hbox hg; have hcz132_0 : w131.cell? ⟨gb312, 0, none⟩ = some (.int .i64 a0_0) := (blk_cell BK312.out 0).trans rfl; have hcz132_1 : w131.cell? ⟨gb312, 1, none⟩ = some (.slice A0_1 l0_1.length c0_1) := (blk_cell BK312.out 1).trans rfl; have hcz132_2 : w131.cell? ⟨gb312, 2, none⟩ = some (.slice A0_2 l0_2.length c0_2) := (blk_cell BK312.out 2).trans rfl; have hfz132_0 := blk_frozen BK312.out 0; have hfz132_1 := blk_frozen BK312.out 1; have hfz132_2 := blk_frozen BK312.out 2) | ((with_reducible refine gate_callee (f := 15) rfl ?_); refine goesL_ (some 19) rfl rfl Try.func15 (by kernel_rfl) rfl #[.agg #[.int .i64 a0_0, .slice A0_1 l0_1.length c0_1, .slice A0_2 l0_2.length c0_2]] rfl (by (try simp only [List.map_toArray, List.map_cons, List.map_nil]); first | done | rfl | (simp only [List.length_drop, List.length_take]; rfl)) ?_; (with_reducible refine (neonwrightlaw07_few.calls a0_0 _ _ l0_1 _ _ l0_2 true _ ?side1 ?side2 ?side3 ?side4 A3.out).mono ?_); (case side1 => repeat (first | exact (Kd.C_below HR0_1.out HB.out) | (with_reducible refine Kd.C_alloc ?_ _) | (with_reducible refine Kd.C_drewN ?_ _) | (with_reducible refine Kd.C_drew ?_))); (case side2 => exact HC0_1.out); (case side3 => repeat (first | exact (Kd.C_below HR0_2.out HB.out) | (with_reducible refine Kd.C_alloc ?_ _) | (with_reducible refine Kd.C_drewN ?_ _) | (with_reducible refine Kd.C_drew ?_))); (case side4 => exact HC0_2.out); rintro e w133 ⟨rfl, hb⟩; refine ⟨_, rfl, ?_⟩; have n0_ := Aside0.mk (blk_below (g := gb312) (o := .cells #[.int .i64 a0_0, .slice A0_1 l0_1.length c0_1, .slice A0_2 l0_2.length c0_2] 25 (0, 0)) (by (with_reducible repeat (first | refine blk_drewN ?_ _ | refine blk_drew ?_ | refine blk_alloc ?_ _)); exact BK312.out) hb); have n1_ := Aside0.mk (below_step (by repeat (first | (with_reducible first | exact HB.out | apply below_alloc | apply pw_below_drewN | apply below_drew1 | refine below_set ?_ GE312.out) | exact HB.out)) hb); clear BK312; clear HB; have BK312 := n0_; have HB := n1_; clear n0_ n1_; (try clear hb); (try clear hb2); (try clear hk); (try clear hi); have hcz134_0 : w133.cell? ⟨gb312, 0, none⟩ = some (.int .i64 a0_0) := (blk_cell BK312.out 0).trans rfl; have hcz134_1 : w133.cell? ⟨gb312, 1, none⟩ = some (.slice A0_1 l0_1.length c0_1) := (blk_cell BK312.out 1).trans rfl; have hcz134_2 : w133.cell? ⟨gb312, 2, none⟩ = some (.slice A0_2 l0_2.length c0_2) := (blk_cell BK312.out 2).trans rfl; have hfz134_0 := blk_frozen BK312.out 0; have hfz134_1 := blk_frozen BK312.out 1; have hfz134_2 := blk_frozen BK312.out 2) | ((with_reducible refine gate_callee (f := 18) rfl ?_); refine goesL_ (some 24) rfl rfl Try.func18 (by kernel_rfl) rfl #[.agg #[.int .i64 a0_0, .slice A0_1 l0_1.length c0_1, .slice A0_2 l0_2.length c0_2]] rfl (by (try simp only [List.map_toArray, List.map_cons, List.map_nil]); first | done | rfl | (simp only [List.length_drop, List.length_take]; rfl)) ?_; (with_reducible refine (gate_Alike.calls a0_0 _ _ l0_1 _ _ l0_2 t315 t318 _ ?side1 ?side2 ?side3 ?side4 A5.out).mono ?_); (case side1 => repeat (first | exact (Kd.C_below HR0_1.out HB.out) | (with_reducible refine Kd.C_alloc ?_ _) | (with_reducible refine Kd.C_drewN ?_ _) | (with_reducible refine Kd.C_drew ?_))); (case side2 => exact HC0_1.out); (case side3 => repeat (first | exact (Kd.C_below HR0_2.out HB.out) | (with_reducible refine Kd.C_alloc ?_ _) | (with_reducible refine Kd.C_drewN ?_ _) | (with_reducible refine Kd.C_drew ?_))); (case side4 => exact HC0_2.out); rintro e w135 ⟨v316, rfl, ho0, hb⟩; refine ⟨_, rfl, ?_⟩; have n0_ := Aside0.mk (Kd.S_lower ho0 (below_size (by repeat (first | (with_reducible first | exact HB.out | apply below_alloc | apply pw_below_drewN | apply below_drew1 | refine below_set ?_ GE312.out) | exact HB.out)))); have n1_ := Aside0.mk (blk_below (g := gb312) (o := .cells #[.int .i64 a0_0, .slice A0_1 l0_1.length c0_1, .slice A0_2 l0_2.length c0_2] 25 (0, 0)) (by (with_reducible repeat (first | refine blk_drewN ?_ _ | refine blk_drew ?_ | refine blk_alloc ?_ _)); exact BK312.out) hb); have n2_ := Aside0.mk (below_step (by repeat (first | (with_reducible first | exact HB.out | apply below_alloc | apply pw_below_drewN | apply below_drew1 | refine below_set ?_ GE312.out) | exact HB.out)) hb); clear BK312; clear HB; have HO317 := n0_; have BK312 := n1_; have HB := n2_; clear n0_ n1_ n2_; (try clear hb); (try clear hb2); (try clear hk); (try clear hi); (try clear ho0); obtain ⟨Ao136, co136, eo136⟩ := Kd.S_slice HO317.out; subst eo136) | (go_at_call 16; (with_reducible refine (neonwrightlaw07_alive.calls  t319 _ A130.out).mono ?_); rintro e w137 ⟨rfl, hb⟩; have n0_ := Aside0.mk (Kd.S_below (by (with_reducible repeat (first | apply Kd.S_alloc | apply Kd.S_drewN | apply Kd.S_drew)); exact HO317.out) hb); have n1_ := Aside0.mk (blk_below (g := gb312) (o := .cells #[.int .i64 a0_0, .slice A0_1 l0_1.length c0_1, .slice A0_2 l0_2.length c0_2] 25 (0, 0)) (by (with_reducible repeat (first | refine blk_drewN ?_ _ | refine blk_drew ?_ | refine blk_alloc ?_ _)); exact BK312.out) hb); have n2_ := Aside0.mk (below_step (by repeat (first | (with_reducible first | exact HB.out | apply below_alloc | apply pw_below_drewN | apply below_drew1 | refine below_set ?_ GE312.out) | exact HB.out)) hb); clear HO317; clear BK312; clear HB; have HO317 := n0_; have BK312 := n1_; have HB := n2_; clear n0_ n1_ n2_; (try clear hb); (try clear hb2); (try clear hk); (try clear hi)))
          go_ret
          exact ⟨by first | rfl | (simp [errW_none, errW_some] <;> rfl) | (simp [*, errW_none, errW_some] <;> rfl), by repeat (first | (with_reducible first | exact HB.out | apply below_alloc | apply pw_below_drewN | apply below_drew1 | refine below_set ?_ GE312.out) | exact HB.out)⟩
        · rw [if_neg c129] at H
          have c129b0 : ((t315.length : Int) == 0) = false := beq_eq_false_iff_ne.mpr c129
          have c129b1 : ((t315.length : Int) != 0) = true := bne_iff_ne.mpr c129
          have c129b2 : ¬ (t315 = []) := fun h_ => c129 (by rw [h_]; rfl)
          obtain rfl := Option.some.inj H
          go_enter Try.func5, Try.ntmps5
          go_wp2_with (first | ((with_reducible refine gate_dst (N := 2) rfl ?_); (try (refine gate_guard (by rfl) ?_; dsimp only)); refine box_event ?hg (N := 2) ?hd (cs := #[.int .i64 a0_0, .slice A0_1 l0_1.length c0_1, .slice A0_2 l0_2.length c0_2]) (t := 25) ?hr ?_; (case hd => rfl); (case hg => rfl); (case hr => first | (go_simp; done) | (go_simp; rfl)); intro gb312 hg w138 hbox hb; have n0_ := Aside0.mk (below_step (by repeat (first | (with_reducible first | exact HB.out | apply below_alloc | apply pw_below_drewN | apply below_drew1) | exact HB.out)) hb); have n1_ := Aside0.mk (hbox); have n2_ := Aside0.mk ((by rw [hg]; exact (below_size (by repeat (first | (with_reducible first | exact HB.out | apply below_alloc | apply pw_below_drewN | apply below_drew1) | exact HB.out))) : w.heap.size ≤ gb312)); have n3_ := Aside0.mk ((by rw [hg]; exact (below_size (by repeat (first | (with_reducible first | exact HB.out | apply below_alloc | apply pw_below_drewN | apply below_drew1) | exact HB.out))) : w.heap.size ≤ gb312)); clear HB; have HB := n0_; have BK312 := n1_; have GW312 := n2_; have GE312 := n3_; clear n0_ n1_ n2_ n3_; clear hb hbox hg; have hcz139_0 : w138.cell? ⟨gb312, 0, none⟩ = some (.int .i64 a0_0) := (blk_cell BK312.out 0).trans rfl; have hcz139_1 : w138.cell? ⟨gb312, 1, none⟩ = some (.slice A0_1 l0_1.length c0_1) := (blk_cell BK312.out 1).trans rfl; have hcz139_2 : w138.cell? ⟨gb312, 2, none⟩ = some (.slice A0_2 l0_2.length c0_2) := (blk_cell BK312.out 2).trans rfl; have hfz139_0 := blk_frozen BK312.out 0; have hfz139_1 := blk_frozen BK312.out 1; have hfz139_2 := blk_frozen BK312.out 2) | ((with_reducible refine gate_callee (f := 15) rfl ?_); refine goesL_ (some 19) rfl rfl Try.func15 (by kernel_rfl) rfl #[.agg #[.int .i64 a0_0, .slice A0_1 l0_1.length c0_1, .slice A0_2 l0_2.length c0_2]] rfl (by (try simp only [List.map_toArray, List.map_cons, List.map_nil]); first | done | rfl | (simp only [List.length_drop, List.length_take]; rfl)) ?_; (with_reducible refine (neonwrightlaw07_few.calls a0_0 _ _ l0_1 _ _ l0_2 true _ ?side1 ?side2 ?side3 ?side4 A3.out).mono ?_); (case side1 => repeat (first | exact (Kd.C_below HR0_1.out HB.out) | (with_reducible refine Kd.C_alloc ?_ _) | (with_reducible refine Kd.C_drewN ?_ _) | (with_reducible refine Kd.C_drew ?_))); (case side2 => exact HC0_1.out); (case side3 => repeat (first | exact (Kd.C_below HR0_2.out HB.out) | (with_reducible refine Kd.C_alloc ?_ _) | (with_reducible refine Kd.C_drewN ?_ _) | (with_reducible refine Kd.C_drew ?_))); (case side4 => exact HC0_2.out); rintro e w140 ⟨rfl, hb⟩; refine ⟨_, rfl, ?_⟩; have n0_ := Aside0.mk (blk_below (g := gb312) (o := .cells #[.int .i64 a0_0, .slice A0_1 l0_1.length c0_1, .slice A0_2 l0_2.length c0_2] 25 (0, 0)) (by (with_reducible repeat (first | refine blk_drewN ?_ _ | refine blk_drew ?_ | refine blk_alloc ?_ _)); exact BK312.out) hb); have n1_ := Aside0.mk (below_step (by repeat (first | (with_reducible first | exact HB.out | apply below_alloc | apply pw_below_drewN | apply below_drew1 | refine below_set ?_ GE312.out) | exact HB.out)) hb); clear BK312; clear HB; have BK312 := n0_; have HB := n1_; clear n0_ n1_; (try clear hb); (try clear hb2); (try clear hk); (try clear hi); have hcz141_0 : w140.cell? ⟨gb312, 0, none⟩ = some (.int .i64 a0_0) := (blk_cell BK312.out 0).trans rfl; have hcz141_1 : w140.cell? ⟨gb312, 1, none⟩ = some (.slice A0_1 l0_1.length c0_1) := (blk_cell BK312.out 1).trans rfl; have hcz141_2 : w140.cell? ⟨gb312, 2, none⟩ = some (.slice A0_2 l0_2.length c0_2) := (blk_cell BK312.out 2).trans rfl; have hfz141_0 := blk_frozen BK312.out 0; have hfz141_1 := blk_frozen BK312.out 1; have hfz141_2 := blk_frozen BK312.out 2) | ((with_reducible refine gate_callee (f := 18) rfl ?_); refine goesL_ (some 24) rfl rfl Try.func18 (by kernel_rfl) rfl #[.agg #[.int .i64 a0_0, .slice A0_1 l0_1.length c0_1, .slice A0_2 l0_2.length c0_2]] rfl (by (try simp only [List.map_toArray, List.map_cons, List.map_nil]); first | done | rfl | (simp only [List.length_drop, List.length_take]; rfl)) ?_; (with_reducible refine (gate_Alike.calls a0_0 _ _ l0_1 _ _ l0_2 t315 t318 _ ?side1 ?side2 ?side3 ?side4 A5.out).mono ?_); (case side1 => repeat (first | exact (Kd.C_below HR0_1.out HB.out) | (with_reducible refine Kd.C_alloc ?_ _) | (with_reducible refine Kd.C_drewN ?_ _) | (with_reducible refine Kd.C_drew ?_))); (case side2 => exact HC0_1.out); (case side3 => repeat (first | exact (Kd.C_below HR0_2.out HB.out) | (with_reducible refine Kd.C_alloc ?_ _) | (with_reducible refine Kd.C_drewN ?_ _) | (with_reducible refine Kd.C_drew ?_))); (case side4 => exact HC0_2.out); rintro e w142 ⟨v316, rfl, ho0, hb⟩; refine ⟨_, rfl, ?_⟩; have n0_ := Aside0.mk (Kd.S_lower ho0 (below_size (by repeat (first | (with_reducible first | exact HB.out | apply below_alloc | apply pw_below_drewN | apply below_drew1 | refine below_set ?_ GE312.out) | exact HB.out)))); have n1_ := Aside0.mk (blk_below (g := gb312) (o := .cells #[.int .i64 a0_0, .slice A0_1 l0_1.length c0_1, .slice A0_2 l0_2.length c0_2] 25 (0, 0)) (by (with_reducible repeat (first | refine blk_drewN ?_ _ | refine blk_drew ?_ | refine blk_alloc ?_ _)); exact BK312.out) hb); have n2_ := Aside0.mk (below_step (by repeat (first | (with_reducible first | exact HB.out | apply below_alloc | apply pw_below_drewN | apply below_drew1 | refine below_set ?_ GE312.out) | exact HB.out)) hb); clear BK312; clear HB; have HO317 := n0_; have BK312 := n1_; have HB := n2_; clear n0_ n1_ n2_; (try clear hb); (try clear hb2); (try clear hk); (try clear hi); (try clear ho0); obtain ⟨Ao143, co143, eo143⟩ := Kd.S_slice HO317.out; subst eo143))
          go_ret
          exact ⟨by first | rfl | (simp [errW_none, errW_some] <;> rfl) | (simp [*, errW_none, errW_some] <;> rfl), by repeat (first | (with_reducible first | exact HB.out | apply below_alloc | apply pw_below_drewN | apply below_drew1 | refine below_set ?_ GE312.out) | exact HB.out)⟩
      · rw [if_neg c128] at H
        have c128b0 : (t318 == 2) = false := beq_eq_false_iff_ne.mpr c128
        have c128b1 : (t318 != 2) = true := bne_iff_ne.mpr c128
        obtain rfl := Option.some.inj H
        go_enter Try.func5, Try.ntmps5
        go_wp2_with (first | ((with_reducible refine gate_dst (N := 2) rfl ?_); (try (refine gate_guard (by rfl) ?_; dsimp only)); refine box_event ?hg (N := 2) ?hd (cs := #[.int .i64 a0_0, .slice A0_1 l0_1.length c0_1, .slice A0_2 l0_2.length c0_2]) (t := 25) ?hr ?_; (case hd => rfl); (case hg => rfl); (case hr => first | (go_simp; done) | (go_simp; rfl)); intro gb312 hg w144 hbox hb; have n0_ := Aside0.mk (below_step (by repeat (first | (with_reducible first | exact HB.out | apply below_alloc | apply pw_below_drewN | apply below_drew1) | exact HB.out)) hb); have n1_ := Aside0.mk (hbox); have n2_ := Aside0.mk ((by rw [hg]; exact (below_size (by repeat (first | (with_reducible first | exact HB.out | apply below_alloc | apply pw_below_drewN | apply below_drew1) | exact HB.out))) : w.heap.size ≤ gb312)); have n3_ := Aside0.mk ((by rw [hg]; exact (below_size (by repeat (first | (with_reducible first | exact HB.out | apply below_alloc | apply pw_below_drewN | apply below_drew1) | exact HB.out))) : w.heap.size ≤ gb312)); clear HB; have HB := n0_; have BK312 := n1_; have GW312 := n2_; have GE312 := n3_; clear n0_ n1_ n2_ n3_; clear hb hbox hg; have hcz145_0 : w144.cell? ⟨gb312, 0, none⟩ = some (.int .i64 a0_0) := (blk_cell BK312.out 0).trans rfl; have hcz145_1 : w144.cell? ⟨gb312, 1, none⟩ = some (.slice A0_1 l0_1.length c0_1) := (blk_cell BK312.out 1).trans rfl; have hcz145_2 : w144.cell? ⟨gb312, 2, none⟩ = some (.slice A0_2 l0_2.length c0_2) := (blk_cell BK312.out 2).trans rfl; have hfz145_0 := blk_frozen BK312.out 0; have hfz145_1 := blk_frozen BK312.out 1; have hfz145_2 := blk_frozen BK312.out 2) | ((with_reducible refine gate_callee (f := 15) rfl ?_); refine goesL_ (some 19) rfl rfl Try.func15 (by kernel_rfl) rfl #[.agg #[.int .i64 a0_0, .slice A0_1 l0_1.length c0_1, .slice A0_2 l0_2.length c0_2]] rfl (by (try simp only [List.map_toArray, List.map_cons, List.map_nil]); first | done | rfl | (simp only [List.length_drop, List.length_take]; rfl)) ?_; (with_reducible refine (neonwrightlaw07_few.calls a0_0 _ _ l0_1 _ _ l0_2 true _ ?side1 ?side2 ?side3 ?side4 A3.out).mono ?_); (case side1 => repeat (first | exact (Kd.C_below HR0_1.out HB.out) | (with_reducible refine Kd.C_alloc ?_ _) | (with_reducible refine Kd.C_drewN ?_ _) | (with_reducible refine Kd.C_drew ?_))); (case side2 => exact HC0_1.out); (case side3 => repeat (first | exact (Kd.C_below HR0_2.out HB.out) | (with_reducible refine Kd.C_alloc ?_ _) | (with_reducible refine Kd.C_drewN ?_ _) | (with_reducible refine Kd.C_drew ?_))); (case side4 => exact HC0_2.out); rintro e w146 ⟨rfl, hb⟩; refine ⟨_, rfl, ?_⟩; have n0_ := Aside0.mk (blk_below (g := gb312) (o := .cells #[.int .i64 a0_0, .slice A0_1 l0_1.length c0_1, .slice A0_2 l0_2.length c0_2] 25 (0, 0)) (by (with_reducible repeat (first | refine blk_drewN ?_ _ | refine blk_drew ?_ | refine blk_alloc ?_ _)); exact BK312.out) hb); have n1_ := Aside0.mk (below_step (by repeat (first | (with_reducible first | exact HB.out | apply below_alloc | apply pw_below_drewN | apply below_drew1 | refine below_set ?_ GE312.out) | exact HB.out)) hb); clear BK312; clear HB; have BK312 := n0_; have HB := n1_; clear n0_ n1_; (try clear hb); (try clear hb2); (try clear hk); (try clear hi); have hcz147_0 : w146.cell? ⟨gb312, 0, none⟩ = some (.int .i64 a0_0) := (blk_cell BK312.out 0).trans rfl; have hcz147_1 : w146.cell? ⟨gb312, 1, none⟩ = some (.slice A0_1 l0_1.length c0_1) := (blk_cell BK312.out 1).trans rfl; have hcz147_2 : w146.cell? ⟨gb312, 2, none⟩ = some (.slice A0_2 l0_2.length c0_2) := (blk_cell BK312.out 2).trans rfl; have hfz147_0 := blk_frozen BK312.out 0; have hfz147_1 := blk_frozen BK312.out 1; have hfz147_2 := blk_frozen BK312.out 2) | ((with_reducible refine gate_callee (f := 18) rfl ?_); refine goesL_ (some 24) rfl rfl Try.func18 (by kernel_rfl) rfl #[.agg #[.int .i64 a0_0, .slice A0_1 l0_1.length c0_1, .slice A0_2 l0_2.length c0_2]] rfl (by (try simp only [List.map_toArray, List.map_cons, List.map_nil]); first | done | rfl | (simp only [List.length_drop, List.length_take]; rfl)) ?_; (with_reducible refine (gate_Alike.calls a0_0 _ _ l0_1 _ _ l0_2 t315 t318 _ ?side1 ?side2 ?side3 ?side4 A5.out).mono ?_); (case side1 => repeat (first | exact (Kd.C_below HR0_1.out HB.out) | (with_reducible refine Kd.C_alloc ?_ _) | (with_reducible refine Kd.C_drewN ?_ _) | (with_reducible refine Kd.C_drew ?_))); (case side2 => exact HC0_1.out); (case side3 => repeat (first | exact (Kd.C_below HR0_2.out HB.out) | (with_reducible refine Kd.C_alloc ?_ _) | (with_reducible refine Kd.C_drewN ?_ _) | (with_reducible refine Kd.C_drew ?_))); (case side4 => exact HC0_2.out); rintro e w148 ⟨v316, rfl, ho0, hb⟩; refine ⟨_, rfl, ?_⟩; have n0_ := Aside0.mk (Kd.S_lower ho0 (below_size (by repeat (first | (with_reducible first | exact HB.out | apply below_alloc | apply pw_below_drewN | apply below_drew1 | refine below_set ?_ GE312.out) | exact HB.out)))); have n1_ := Aside0.mk (blk_below (g := gb312) (o := .cells #[.int .i64 a0_0, .slice A0_1 l0_1.length c0_1, .slice A0_2 l0_2.length c0_2] 25 (0, 0)) (by (with_reducible repeat (first | refine blk_drewN ?_ _ | refine blk_drew ?_ | refine blk_alloc ?_ _)); exact BK312.out) hb); have n2_ := Aside0.mk (below_step (by repeat (first | (with_reducible first | exact HB.out | apply below_alloc | apply pw_below_drewN | apply below_drew1 | refine below_set ?_ GE312.out) | exact HB.out)) hb); clear BK312; clear HB; have HO317 := n0_; have BK312 := n1_; have HB := n2_; clear n0_ n1_ n2_; (try clear hb); (try clear hb2); (try clear hk); (try clear hi); (try clear ho0)))
        go_ret
        exact ⟨by first | rfl | (simp [errW_none, errW_some] <;> rfl) | (simp [*, errW_none, errW_some] <;> rfl), by repeat (first | (with_reducible first | exact HB.out | apply below_alloc | apply pw_below_drewN | apply below_drew1 | refine below_set ?_ GE312.out) | exact HB.out)⟩
  · replace c4 := Bool.eq_false_iff.mpr c4
    subst c4
    have H1 : ((neonwrightlaw07_alive.f).bind fun t314 => (some t314)) = some r := by rw [if_neg (show ¬ (false = true) by decide)] at H; exact H
    clear H
    have H := H1
    clear H1
    replace H := Option.bind_eq_some_iff.mp H
    obtain ⟨t314, A1490, H⟩ := H
    replace H : (some t314) = some r := H
    have A149 := Aside0.mk A1490
    clear A1490
    obtain rfl := Option.some.inj H
    go_enter Try.func5, Try.ntmps5
    go_wp2_with (first | ((with_reducible refine gate_dst (N := 2) rfl ?_); (try (refine gate_guard (by rfl) ?_; dsimp only)); refine box_event ?hg (N := 2) ?hd (cs := #[.int .i64 a0_0, .slice A0_1 l0_1.length c0_1, .slice A0_2 l0_2.length c0_2]) (t := 25) ?hr ?_; (case hd => rfl); (case hg => rfl); (case hr => first | (go_simp; done) | (go_simp; rfl)); intro gb312 hg w150 hbox hb; have n0_ := Aside0.mk (below_step (by repeat (first | (with_reducible first | exact HB.out | apply below_alloc | apply pw_below_drewN | apply below_drew1) | exact HB.out)) hb); have n1_ := Aside0.mk (hbox); have n2_ := Aside0.mk ((by rw [hg]; exact (below_size (by repeat (first | (with_reducible first | exact HB.out | apply below_alloc | apply pw_below_drewN | apply below_drew1) | exact HB.out))) : w.heap.size ≤ gb312)); have n3_ := Aside0.mk ((by rw [hg]; exact (below_size (by repeat (first | (with_reducible first | exact HB.out | apply below_alloc | apply pw_below_drewN | apply below_drew1) | exact HB.out))) : w.heap.size ≤ gb312)); clear HB; have HB := n0_; have BK312 := n1_; have GW312 := n2_; have GE312 := n3_; clear n0_ n1_ n2_ n3_; clear hb hbox hg; have hcz151_0 : w150.cell? ⟨gb312, 0, none⟩ = some (.int .i64 a0_0) := (blk_cell BK312.out 0).trans rfl; have hcz151_1 : w150.cell? ⟨gb312, 1, none⟩ = some (.slice A0_1 l0_1.length c0_1) := (blk_cell BK312.out 1).trans rfl; have hcz151_2 : w150.cell? ⟨gb312, 2, none⟩ = some (.slice A0_2 l0_2.length c0_2) := (blk_cell BK312.out 2).trans rfl; have hfz151_0 := blk_frozen BK312.out 0; have hfz151_1 := blk_frozen BK312.out 1; have hfz151_2 := blk_frozen BK312.out 2) | ((with_reducible refine gate_callee (f := 15) rfl ?_); refine goesL_ (some 19) rfl rfl Try.func15 (by kernel_rfl) rfl #[.agg #[.int .i64 a0_0, .slice A0_1 l0_1.length c0_1, .slice A0_2 l0_2.length c0_2]] rfl (by (try simp only [List.map_toArray, List.map_cons, List.map_nil]); first | done | rfl | (simp only [List.length_drop, List.length_take]; rfl)) ?_; (with_reducible refine (neonwrightlaw07_few.calls a0_0 _ _ l0_1 _ _ l0_2 false _ ?side1 ?side2 ?side3 ?side4 A3.out).mono ?_); (case side1 => repeat (first | exact (Kd.C_below HR0_1.out HB.out) | (with_reducible refine Kd.C_alloc ?_ _) | (with_reducible refine Kd.C_drewN ?_ _) | (with_reducible refine Kd.C_drew ?_))); (case side2 => exact HC0_1.out); (case side3 => repeat (first | exact (Kd.C_below HR0_2.out HB.out) | (with_reducible refine Kd.C_alloc ?_ _) | (with_reducible refine Kd.C_drewN ?_ _) | (with_reducible refine Kd.C_drew ?_))); (case side4 => exact HC0_2.out); rintro e w152 ⟨rfl, hb⟩; refine ⟨_, rfl, ?_⟩; have n0_ := Aside0.mk (blk_below (g := gb312) (o := .cells #[.int .i64 a0_0, .slice A0_1 l0_1.length c0_1, .slice A0_2 l0_2.length c0_2] 25 (0, 0)) (by (with_reducible repeat (first | refine blk_drewN ?_ _ | refine blk_drew ?_ | refine blk_alloc ?_ _)); exact BK312.out) hb); have n1_ := Aside0.mk (below_step (by repeat (first | (with_reducible first | exact HB.out | apply below_alloc | apply pw_below_drewN | apply below_drew1 | refine below_set ?_ GE312.out) | exact HB.out)) hb); clear BK312; clear HB; have BK312 := n0_; have HB := n1_; clear n0_ n1_; (try clear hb); (try clear hb2); (try clear hk); (try clear hi)) | ((with_reducible refine gate_callee (f := 16) rfl ?_); refine goesL_ (some 21) rfl rfl Try.func16 (by kernel_rfl) rfl #[] rfl (by (try simp only [List.map_toArray, List.map_cons, List.map_nil]); first | done | rfl | (simp only [List.length_drop, List.length_take]; rfl)) ?_; (with_reducible refine (neonwrightlaw07_alive.calls  t314 _ A149.out).mono ?_); rintro e w153 ⟨rfl, hb⟩; refine ⟨_, rfl, ?_⟩; have n0_ := Aside0.mk (blk_below (g := gb312) (o := .cells #[.int .i64 a0_0, .slice A0_1 l0_1.length c0_1, .slice A0_2 l0_2.length c0_2] 25 (0, 0)) (by (with_reducible repeat (first | refine blk_drewN ?_ _ | refine blk_drew ?_ | refine blk_alloc ?_ _)); exact BK312.out) hb); have n1_ := Aside0.mk (below_step (by repeat (first | (with_reducible first | exact HB.out | apply below_alloc | apply pw_below_drewN | apply below_drew1 | refine below_set ?_ GE312.out) | exact HB.out)) hb); clear BK312; clear HB; have BK312 := n0_; have HB := n1_; clear n0_ n1_; (try clear hb); (try clear hb2); (try clear hk); (try clear hi)))
    go_ret
    exact ⟨by first | rfl | (simp [errW_none, errW_some] <;> rfl) | (simp [*, errW_none, errW_some] <;> rfl), by repeat (first | (with_reducible first | exact HB.out | apply below_alloc | apply pw_below_drewN | apply below_drew1 | refine below_set ?_ GE312.out) | exact HB.out)⟩
end Go.Proofs.Ytelfalicickelaa.P
