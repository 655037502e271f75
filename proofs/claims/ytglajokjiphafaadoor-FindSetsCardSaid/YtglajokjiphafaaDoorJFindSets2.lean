/- Several texts of this session in one file, in build order: Pf19, DRef, Pf56, Pf62, Pf36, DSetR, Pf16, DPure0, Pf28, DLists, DPoke, HFindSets. -/
import Derived.Test.YtglajokjiphafaaDoorJB1
import Derived.Test.YtglajokjiphafaaDoorJFindSets1
import Derived.Test.YtglajokjiphafaaDoorJB2
namespace Go.Proofs.YtglajokjiphafaaDoor.P
open Go.RowKit Go.Proofs.YtglajokjiphafaaDoorW.PrintWords Go.Proofs.YtglajokjiphafaaDoorW.PrintLast Go.Proofs.YtglajokjiphafaaDoorW.PrintMore
attribute [local go_sem] max2_int min2_int max_two min_two max_three min_three max_four min_four   -- for this text's walks alone
set_option linter.unusedVariables false
set_option linter.unusedSimpArgs false

/-! ### neonwrightref05_Hidden: function 19 -/
mutual
def neonwrightref05_Hidden.j0 : Nat → Int → List (List Int) → Int → Bool → Option (List Int × Int)
  | 0, _, _, _, _ => none
  | k + 1, x0, x1, x2, x25 => if x25 = true then (some (([] : List Int), 2)) else (neonwrightref05_Hidden.l0 k x0 x1 x2 0)
def neonwrightref05_Hidden.l0 : Nat → Int → List (List Int) → Int → Int → Option (List Int × Int)
  | 0, _, _, _, _ => none
  | k + 1, x0, x1, x2, x9 => if x9 < x0 then (neonwrightref05_Hidden.l1 k x0 x1 x2 x9 0) else (some (([] : List Int), 0))
def neonwrightref05_Hidden.l1 : Nat → Int → List (List Int) → Int → Int → Int → Option (List Int × Int)
  | 0, _, _, _, _, _ => none
  | k + 1, x0, x1, x2, x9, x10 => if x10 ≤ x2 then ((neonwrightref05_chosen.f k x0 x10 0 x9).bind fun t147 => (neonwrightref05_Hidden.l2 k x0 x1 x2 x9 x10 t147 0)) else (neonwrightref05_Hidden.l0 k x0 x1 x2 (wrap64 (x9 + 1)))
def neonwrightref05_Hidden.l2 : Nat → Int → List (List Int) → Int → Int → Int → List (List Int) → Int → Option (List Int × Int)
  | 0, _, _, _, _, _, _, _ => none
  | k + 1, x0, x1, x2, x9, x10, x11, x12 => if x12 < (x11.length : Int) then (if 0 ≤ x12 then ((neonwrightref05_hidden.f k x1 x9 (rd_L1 x11 x12)).bind fun t151 => (if t151 = true then ((some (([x9] : List Int) : List Int)).bind fun y152 => (if y152.length + (rd_L1 x11 x12).length < 17592186044416 then (some ((y152 ++ (rd_L1 x11 x12)), 0)) else (none))) else (neonwrightref05_Hidden.l2 k x0 x1 x2 x9 x10 x11 (wrap64 (x12 + 1))))) else (none)) else (neonwrightref05_Hidden.l1 k x0 x1 x2 x9 (wrap64 (x10 + 1)))
end
def neonwrightref05_Hidden.f (k : Nat) (a0 : Int) (l1 : List (List Int)) (a2 : Int) : Option (List Int × Int) := (neonwrightref05_Design.f k a0 l1).bind fun t146 => (if t146 = 0 then (if a2 < 0 then (neonwrightref05_Hidden.j0 k a0 l1 a2 true) else (neonwrightref05_Hidden.j0 k a0 l1 a2 (decide (a2 > 3)))) else (some (([] : List Int), t146)))
theorem neonwrightref05_Hidden.mono_l : ∀ k, (∀ y0 y1 y2 y3, LeO (neonwrightref05_Hidden.j0 k y0 y1 y2 y3) (neonwrightref05_Hidden.j0 (k + 1) y0 y1 y2 y3)) ∧ (∀ y0 y1 y2 y3, LeO (neonwrightref05_Hidden.l0 k y0 y1 y2 y3) (neonwrightref05_Hidden.l0 (k + 1) y0 y1 y2 y3)) ∧ (∀ y0 y1 y2 y3 y4, LeO (neonwrightref05_Hidden.l1 k y0 y1 y2 y3 y4) (neonwrightref05_Hidden.l1 (k + 1) y0 y1 y2 y3 y4)) ∧ (∀ y0 y1 y2 y3 y4 y5 y6, LeO (neonwrightref05_Hidden.l2 k y0 y1 y2 y3 y4 y5 y6) (neonwrightref05_Hidden.l2 (k + 1) y0 y1 y2 y3 y4 y5 y6))
  | 0 => ⟨fun _ _ _ _ r h => by simp [neonwrightref05_Hidden.j0] at h, fun _ _ _ _ r h => by simp [neonwrightref05_Hidden.l0] at h, fun _ _ _ _ _ r h => by simp [neonwrightref05_Hidden.l1] at h, fun _ _ _ _ _ _ _ r h => by simp [neonwrightref05_Hidden.l2] at h⟩
  | k + 1 => by
    obtain ⟨ih0, ih1, ih2, ih3⟩ := neonwrightref05_Hidden.mono_l k
    refine ⟨?_, ?_, ?_, ?_⟩
    · intro y0 y1 y2 y3
      unfold neonwrightref05_Hidden.j0
      repeat' first
      | (with_reducible exact ih0 _ _ _ _)
      | (with_reducible exact ih1 _ _ _ _)
      | (with_reducible exact ih2 _ _ _ _ _)
      | (with_reducible exact ih3 _ _ _ _ _ _ _)
      | (with_reducible exact neonwrightref05_Design.mono _ _ _)
      | (with_reducible exact neonwrightref05_chosen.mono _ _ _ _ _)
      | (with_reducible exact neonwrightref05_hidden.mono _ _ _ _)
      | (with_reducible exact LeO.refl _)
      | (with_reducible exact LeO.none _)
      | (with_reducible refine LeO.ite ?_ ?_)
      | (with_reducible refine LeO.bind ?_ (fun _ => ?_))
      | exact ih0 _ _ _ _
      | exact ih1 _ _ _ _
      | exact ih2 _ _ _ _ _
      | exact ih3 _ _ _ _ _ _ _
      | exact neonwrightref05_Design.mono _ _ _
      | exact neonwrightref05_chosen.mono _ _ _ _ _
      | exact neonwrightref05_hidden.mono _ _ _ _
      | exact LeO.none _
      | refine LeO.ite ?_ ?_
      | refine LeO.bind ?_ (fun _ => ?_)
    · intro y0 y1 y2 y3
      unfold neonwrightref05_Hidden.l0
      repeat' first
      | (with_reducible exact ih0 _ _ _ _)
      | (with_reducible exact ih1 _ _ _ _)
      | (with_reducible exact ih2 _ _ _ _ _)
      | (with_reducible exact ih3 _ _ _ _ _ _ _)
      | (with_reducible exact neonwrightref05_Design.mono _ _ _)
      | (with_reducible exact neonwrightref05_chosen.mono _ _ _ _ _)
      | (with_reducible exact neonwrightref05_hidden.mono _ _ _ _)
      | (with_reducible exact LeO.refl _)
      | (with_reducible exact LeO.none _)
      | (with_reducible refine LeO.ite ?_ ?_)
      | (with_reducible refine LeO.bind ?_ (fun _ => ?_))
      | exact ih0 _ _ _ _
      | exact ih1 _ _ _ _
      | exact ih2 _ _ _ _ _
      | exact ih3 _ _ _ _ _ _ _
      | exact neonwrightref05_Design.mono _ _ _
      | exact neonwrightref05_chosen.mono _ _ _ _ _
      | exact neonwrightref05_hidden.mono _ _ _ _
      | exact LeO.none _
      | refine LeO.ite ?_ ?_
      | refine LeO.bind ?_ (fun _ => ?_)
    · intro y0 y1 y2 y3 y4
      unfold neonwrightref05_Hidden.l1
      repeat' first
      | (with_reducible exact ih0 _ _ _ _)
      | (with_reducible exact ih1 _ _ _ _)
      | (with_reducible exact ih2 _ _ _ _ _)
      | (with_reducible exact ih3 _ _ _ _ _ _ _)
      | (with_reducible exact neonwrightref05_Design.mono _ _ _)
      | (with_reducible exact neonwrightref05_chosen.mono _ _ _ _ _)
      | (with_reducible exact neonwrightref05_hidden.mono _ _ _ _)
      | (with_reducible exact LeO.refl _)
      | (with_reducible exact LeO.none _)
      | (with_reducible refine LeO.ite ?_ ?_)
      | (with_reducible refine LeO.bind ?_ (fun _ => ?_))
      | exact ih0 _ _ _ _
      | exact ih1 _ _ _ _
      | exact ih2 _ _ _ _ _
      | exact ih3 _ _ _ _ _ _ _
      | exact neonwrightref05_Design.mono _ _ _
      | exact neonwrightref05_chosen.mono _ _ _ _ _
      | exact neonwrightref05_hidden.mono _ _ _ _
      | exact LeO.none _
      | refine LeO.ite ?_ ?_
      | refine LeO.bind ?_ (fun _ => ?_)
    · intro y0 y1 y2 y3 y4 y5 y6
      unfold neonwrightref05_Hidden.l2
      repeat' first
      | (with_reducible exact ih0 _ _ _ _)
      | (with_reducible exact ih1 _ _ _ _)
      | (with_reducible exact ih2 _ _ _ _ _)
      | (with_reducible exact ih3 _ _ _ _ _ _ _)
      | (with_reducible exact neonwrightref05_Design.mono _ _ _)
      | (with_reducible exact neonwrightref05_chosen.mono _ _ _ _ _)
      | (with_reducible exact neonwrightref05_hidden.mono _ _ _ _)
      | (with_reducible exact LeO.refl _)
      | (with_reducible exact LeO.none _)
      | (with_reducible refine LeO.ite ?_ ?_)
      | (with_reducible refine LeO.bind ?_ (fun _ => ?_))
      | exact ih0 _ _ _ _
      | exact ih1 _ _ _ _
      | exact ih2 _ _ _ _ _
      | exact ih3 _ _ _ _ _ _ _
      | exact neonwrightref05_Design.mono _ _ _
      | exact neonwrightref05_chosen.mono _ _ _ _ _
      | exact neonwrightref05_hidden.mono _ _ _ _
      | exact LeO.none _
      | refine LeO.ite ?_ ?_
      | refine LeO.bind ?_ (fun _ => ?_)
theorem neonwrightref05_Hidden.mono : ∀ a0 a1 a2 k, LeO (neonwrightref05_Hidden.f k a0 a1 a2) (neonwrightref05_Hidden.f (k + 1) a0 a1 a2) := by
  intro a0 a1 a2 k
  obtain ⟨ih0, ih1, ih2, ih3⟩ := neonwrightref05_Hidden.mono_l k
  unfold neonwrightref05_Hidden.f
  repeat' first
      | (with_reducible exact ih0 _ _ _ _)
      | (with_reducible exact ih1 _ _ _ _)
      | (with_reducible exact ih2 _ _ _ _ _)
      | (with_reducible exact ih3 _ _ _ _ _ _ _)
      | (with_reducible exact neonwrightref05_Design.mono _ _ _)
      | (with_reducible exact neonwrightref05_chosen.mono _ _ _ _ _)
      | (with_reducible exact neonwrightref05_hidden.mono _ _ _ _)
      | (with_reducible exact LeO.refl _)
      | (with_reducible exact LeO.none _)
      | (with_reducible refine LeO.ite ?_ ?_)
      | (with_reducible refine LeO.bind ?_ (fun _ => ?_))
      | exact ih0 _ _ _ _
      | exact ih1 _ _ _ _
      | exact ih2 _ _ _ _ _
      | exact ih3 _ _ _ _ _ _ _
      | exact neonwrightref05_Design.mono _ _ _
      | exact neonwrightref05_chosen.mono _ _ _ _ _
      | exact neonwrightref05_hidden.mono _ _ _ _
      | exact LeO.none _
      | refine LeO.ite ?_ ?_
      | refine LeO.bind ?_ (fun _ => ?_)
set_option maxHeartbeats 8000000 in
set_option maxRecDepth 100000 in
theorem neonwrightref05_Hidden.calls (k : Nat) (a0 : Int) (A1 : Option Addr) (c1 : Nat) (l1 : List (List Int)) (a2 : Int) (r1 : List Int) (r2 : Int) (w : World) (hr1 : Kd.C (Kd.slice 3 (Kd.int .i64)) w A1 l1.length l1) (hc1 : l1.length ≤ c1) (h : neonwrightref05_Hidden.f k a0 l1 a2 = some (r1, r2)) :
    Calls Tryd.prog 19 #[.int .i64 a0, .slice A1 l1.length c1, .int .i64 a2] w fun e w' => ∃ v0_ : Value, e = .returned (.tuple #[v0_, .int .i64 r2]) ∧ Kd.R (Kd.int .i64) 3 w' w.heap.size (fun _ => True) v0_ r1 ∧ Below w.heap.size w w' := by
  have HR1 := Aside0.mk hr1
  have HC1 := Aside0.mk hc1
  clear hr1 hc1
  have HB := Aside0.mk (Below.refl w.heap.size w)
  have H : ((neonwrightref05_Design.f k a0 l1).bind fun t146 => (if t146 = 0 then (if a2 < 0 then (neonwrightref05_Hidden.j0 k a0 l1 a2 true) else (neonwrightref05_Hidden.j0 k a0 l1 a2 (decide (a2 > 3)))) else (some (([] : List Int), t146)))) = some (r1, r2) := h
  clear h
  replace H := Option.bind_eq_some_iff.mp H
  obtain ⟨t146, A40, H⟩ := H
  replace H : (if t146 = 0 then (if a2 < 0 then (neonwrightref05_Hidden.j0 k a0 l1 a2 true) else (neonwrightref05_Hidden.j0 k a0 l1 a2 (decide (a2 > 3)))) else (some (([] : List Int), t146))) = some (r1, r2) := H
  have A4 := Aside0.mk A40
  clear A40
  by_cases c5 : t146 = 0
  · rw [if_pos c5] at H
    have c5b0 : (t146 == 0) = true := beq_iff_eq.mpr c5
    have c5b1 : (t146 != 0) = false := bne_eq_false_iff_eq.mpr c5
    clear c5
    have HC6 := Aside0.mk H
    clear H
    go_enter Tryd.func19, Tryd.ntmps19
    go_upto_region 4 with (first | ((with_reducible refine gate_callee (f := 49) rfl ?_); refine goesL_ (some 16) rfl rfl Tryd.func49 (by kernel_rfl) rfl #[.int .i64 a0, .slice A1 l1.length c1] rfl (by (try simp only [List.map_toArray, List.map_cons, List.map_nil]); first | done | rfl | (simp only [List.length_drop, List.length_take]; rfl)) ?_; (with_reducible refine (neonwrightref05_Design.calls k a0 _ _ l1 t146 _ ?side1 ?side2 A4.out).mono ?_); (case side1 => repeat (first | exact HR1.out | (with_reducible refine Kd.C_alloc ?_ _) | (with_reducible refine Kd.C_drewN ?_ _) | (with_reducible refine Kd.C_drew ?_))); (case side2 => exact HC1.out); rintro e w' ⟨rfl, ⟨nd, rfl⟩⟩; refine ⟨_, rfl, ?_⟩))
    (try simp only [Act.put, List.setIfInBounds_toArray, List.set_cons_zero, List.set_cons_succ])
    go_cut [25] (fun v25 wc => ∃ (kq : Nat) (x25_5 : Bool), v25 = .bool x25_5 ∧ Aside0 (neonwrightref05_Hidden.j0 kq a0 l1 a2 x25_5 = some (r1, r2)) ∧ Aside0 (kq ≤ k) ∧ Aside0 (Below w.heap.size w wc))
    case first =>
      have H := HC6.out
      clear HC6
      by_cases c7 : a2 < 0
      · rw [if_pos c7] at H
        have c7b0 : decide (a2 < 0) = true := decide_eq_true c7
        clear c7
        (first | rw [c7b0] | (simp only [i64_w, i32_w]; rw [c7b0]) | skip)
        have H' := Aside0.mk H
        clear H
        go_wp2
        go_meet
        case rel => exact ⟨_, (true), (by first | rfl | (simp; done) | (simp [*]; done)), H', ⟨by first | omega | exact Nat.le_refl _⟩, ⟨by repeat (first | (with_reducible first | exact HB.out | apply below_alloc | apply pw_below_drewN | apply below_drew1) | exact HB.out)⟩⟩
      · rw [if_neg c7] at H
        have c7b0 : decide (a2 < 0) = false := decide_eq_false c7
        clear c7
        (first | rw [c7b0] | (simp only [i64_w, i32_w]; rw [c7b0]) | skip)
        have H' := Aside0.mk H
        clear H
        go_wp2
        go_meet
        case rel => exact ⟨_, (decide (a2 > 3)), (by first | rfl | (simp; done) | (simp [*]; done)), H', ⟨by first | omega | exact Nat.le_refl _⟩, ⟨by repeat (first | (with_reducible first | exact HB.out | apply below_alloc | apply pw_below_drewN | apply below_drew1) | exact HB.out)⟩⟩
    case rest =>
      clear HC6
      try clear c1
      try clear p2
      try clear c4
      try clear c5
      try clear c5b0
      try clear c5b1
      try clear c7
      try clear c7b0
      obtain ⟨kq, x25_5, rfl, HA, HJ5, HB⟩ := hcut
      cases kq with
      | zero => exact absurd HA.out (by simp [neonwrightref05_Hidden.j0])
      | succ kj5 =>
        have H := HA.out
        clear HA
        simp only [neonwrightref05_Hidden.j0] at H
        by_cases c8 : x25_5 = true
        · subst c8
          have H1 : (some (([] : List Int), 2)) = some (r1, r2) := by rw [if_pos rfl] at H; exact H
          clear H
          have H := H1
          clear H1
          simp only [Option.some.injEq, Prod.mk.injEq] at H
          obtain ⟨rfl, rfl⟩ := H
          go_wp2
          go_ret2
          exact ⟨_, by first | rfl | (simp [errW_none, errW_some] <;> rfl) | (simp [*, errW_none, errW_some] <;> rfl), by first | exact Kd.R_nil _ _ _ _ _ | exact Kd.N_nil _ _ _ _ _ | exact Kd.V_nil _ _ _ _ _ | exact Kd.Q_nil _ _ _ _ _ | exact Kd.S_nil _ _ _ _ _, by repeat (first | (with_reducible first | exact HB.out | apply below_alloc | apply pw_below_drewN | apply below_drew1) | exact HB.out)⟩
        · replace c8 := Bool.eq_false_iff.mpr c8
          subst c8
          have H1 : (neonwrightref05_Hidden.l0 kj5 a0 l1 a2 0) = some (r1, r2) := by rw [if_neg (show ¬ (false = true) by decide)] at H; exact H
          clear H
          have H := H1
          clear H1
          have H' := Aside0.mk H
          clear H
          go_wp2
          go_loopg [9] kj5 (fun kq v9 w' => ∃ (x9_2 : Int), v9 = .int .i64 x9_2 ∧ Aside0 (neonwrightref05_Hidden.l0 kq a0 l1 a2 x9_2 = some (r1, r2)) ∧ Aside0 (kq ≤ kj5) ∧ Aside0 (Below w.heap.size w w'))
          case atStart => exact ⟨(0), (by first | rfl | (simp; done) | (simp [*]; done)), H', ⟨Nat.le_refl _⟩, ⟨by repeat (first | (with_reducible first | exact HB.out | apply below_alloc | apply pw_below_drewN | apply below_drew1) | exact HB.out)⟩⟩
          case round =>
            clear H'
            try clear c1
            try clear p2
            try clear c4
            try clear c5
            try clear c5b0
            try clear c5b1
            try clear c7
            try clear c7b0
            try clear c8
            try clear p2
            obtain ⟨x9_2, rfl, HA, HK2, HB⟩ := hrel
            cases gk with
            | zero => exact absurd HA.out (by simp [neonwrightref05_Hidden.l0])
            | succ k2 =>
              have H := HA.out
              clear HA
              simp only [neonwrightref05_Hidden.l0] at H
              by_cases c9 : x9_2 < a0
              · rw [if_pos c9] at H
                have c9b0 : decide (x9_2 < a0) = true := decide_eq_true c9
                clear c9
                have H' := Aside0.mk H
                clear H
                go_wp2
                go_loopg [10] k2 (fun kq v10 w' => ∃ (x10_3 : Int), v10 = .int .i64 x10_3 ∧ Aside0 (neonwrightref05_Hidden.l1 kq a0 l1 a2 x9_2 x10_3 = some (r1, r2)) ∧ Aside0 (kq ≤ k2) ∧ Aside0 (Below w.heap.size w w'))
                case atStart => exact ⟨(0), (by first | rfl | (simp; done) | (simp [*]; done)), H', ⟨Nat.le_refl _⟩, ⟨by repeat (first | (with_reducible first | exact HB.out | apply below_alloc | apply pw_below_drewN | apply below_drew1) | exact HB.out)⟩⟩
                case round =>
                  clear H'
                  try clear c1
                  try clear p2
                  try clear c4
                  try clear c5
                  try clear c5b0
                  try clear c5b1
                  try clear c7
                  try clear c7b0
                  try clear c8
                  try clear c9
                  try clear c9b0
                  try clear p2
                  obtain ⟨x10_3, rfl, HA, HK3, HB⟩ := hrel
                  cases gk with
                  | zero => exact absurd HA.out (by simp [neonwrightref05_Hidden.l1])
                  | succ k3 =>
                    have H := HA.out
                    clear HA
                    simp only [neonwrightref05_Hidden.l1] at H
                    by_cases c10 : x10_3 ≤ a2
                    · rw [if_pos c10] at H
                      have c10b0 : decide (x10_3 ≤ a2) = true := decide_eq_true c10
                      clear c10
                      replace H := Option.bind_eq_some_iff.mp H
                      obtain ⟨t147, A110, H⟩ := H
                      replace H : (neonwrightref05_Hidden.l2 k3 a0 l1 a2 x9_2 x10_3 t147 0) = some (r1, r2) := H
                      have A11 := Aside0.mk A110
                      clear A110
                      have H' := Aside0.mk H
                      clear H
                      go_wp2_with (first | ((with_reducible refine gate_callee (f := 50) rfl ?_); refine goesL_ (some 39) rfl rfl Tryd.func50 (by kernel_rfl) rfl #[.int .i64 a0, .int .i64 x10_3, .int .i64 0, .int .i64 x9_2] rfl (by (try simp only [List.map_toArray, List.map_cons, List.map_nil]); first | done | rfl | (simp only [List.length_drop, List.length_take]; rfl)) ?_; (with_reducible refine (neonwrightref05_chosen.calls k3 a0 x10_3 0 x9_2 t147 _ A11.out).mono ?_); rintro e w12 ⟨v148, rfl, ho0, hb⟩; refine ⟨_, rfl, ?_⟩; have n0_ := Aside0.mk (Kd.S_lower ho0 (below_size (by repeat (first | (with_reducible first | exact HB.out | apply below_alloc | apply pw_below_drewN | apply below_drew1) | exact HB.out)))); have n1_ := Aside0.mk (below_step (by repeat (first | (with_reducible first | exact HB.out | apply below_alloc | apply pw_below_drewN | apply below_drew1) | exact HB.out)) hb); clear HB; have HO149 := n0_; have HB := n1_; clear n0_ n1_; (try clear hb); (try clear hb2); (try clear hk); (try clear hi); (try clear ho0)))
                      go_loopg [12] k3 (fun kq v12 w' => ∃ (x12_4 : Int), v12 = .int .i64 x12_4 ∧ Aside0 (neonwrightref05_Hidden.l2 kq a0 l1 a2 x9_2 x10_3 t147 x12_4 = some (r1, r2)) ∧ Aside0 (kq ≤ k3) ∧ Aside0 (Kd.S (Kd.slice 3 (Kd.int .i64)) 25 w' w.heap.size (fun _ => True) v148 t147) ∧ Aside0 (Below w.heap.size w w'))
                      case atStart => exact ⟨(0), (by first | rfl | (simp; done) | (simp [*]; done)), H', ⟨Nat.le_refl _⟩, ⟨by (with_reducible repeat (first | apply Kd.S_alloc | apply Kd.S_drewN | apply Kd.S_drew)); first | exact HO149.out | exact Kd.R_mono HO149.out (fun k_ h_ => ne_own_len h_)⟩, ⟨by repeat (first | (with_reducible first | exact HB.out | apply below_alloc | apply pw_below_drewN | apply below_drew1) | exact HB.out)⟩⟩
                      case round =>
                        clear H'
                        try clear c1
                        try clear p2
                        try clear c4
                        try clear c5
                        try clear c5b0
                        try clear c5b1
                        try clear c7
                        try clear c7b0
                        try clear c8
                        try clear c9
                        try clear c9b0
                        try clear c10
                        try clear c10b0
                        try clear p2
                        obtain ⟨x12_4, rfl, HA, HK4, HO_11, HB⟩ := hrel
                        cases gk with
                        | zero => exact absurd HA.out (by simp [neonwrightref05_Hidden.l2])
                        | succ k4 =>
                          have H := HA.out
                          clear HA
                          simp only [neonwrightref05_Hidden.l2] at H
                          by_cases c13 : x12_4 < (t147.length : Int)
                          · rw [if_pos c13] at H
                            have c13b0 : decide (x12_4 < (t147.length : Int)) = true := decide_eq_true c13
                            clear c13
                            by_cases c14 : 0 ≤ x12_4
                            · rw [if_pos c14] at H
                              have c14b0 : decide (0 ≤ x12_4) = true := decide_eq_true c14
                              clear c14
                              replace H := Option.bind_eq_some_iff.mp H
                              obtain ⟨t151, A150, H⟩ := H
                              replace H : (if t151 = true then ((some (([x9_2] : List Int) : List Int)).bind fun y152 => (if y152.length + (rd_L1 t147 x12_4).length < 17592186044416 then (some ((y152 ++ (rd_L1 t147 x12_4)), 0)) else (none))) else (neonwrightref05_Hidden.l2 k4 a0 l1 a2 x9_2 x10_3 t147 (wrap64 (x12_4 + 1)))) = some (r1, r2) := H
                              have A15 := Aside0.mk A150
                              clear A150
                              by_cases c16 : t151 = true
                              · subst c16
                                have H1 : ((some (([x9_2] : List Int) : List Int)).bind fun y152 => (if y152.length + (rd_L1 t147 x12_4).length < 17592186044416 then (some ((y152 ++ (rd_L1 t147 x12_4)), 0)) else (none))) = some (r1, r2) := by rw [if_pos rfl] at H; exact H
                                clear H
                                have H := H1
                                clear H1
                                obtain ⟨y152, hy152⟩ : ∃ y_ : List Int, y_ = (([x9_2] : List Int)) := ⟨_, rfl⟩
                                replace H : (if y152.length + (rd_L1 t147 x12_4).length < 17592186044416 then (some ((y152 ++ (rd_L1 t147 x12_4)), 0)) else (none)) = some (r1, r2) := by first | (rw [hy152]; with_reducible exact H) | (have H2_ := (Option.bind_some _ _).symm.trans H; rw [hy152]; with_reducible exact H2_) | (have H2_ := (Option.bind_some _ _).symm.trans H; with_reducible exact H2_) | with_reducible exact H | (rw [hy152]; exact H) | exact H
                                have Ny152 := Aside0.mk hy152
                                clear hy152
                                by_cases c17 : y152.length + (rd_L1 t147 x12_4).length < 17592186044416
                                · rw [if_pos c17] at H
                                  have LMc17 := Aside0.mk c17
                                  clear c17
                                  obtain ⟨y156, hy156⟩ : ∃ y_ : List Int, y_ = (y152 ++ (rd_L1 t147 x12_4)) := ⟨_, rfl⟩
                                  replace H : (some (y156, 0)) = some (r1, r2) := by first | (rw [hy156]; with_reducible exact H) | (have H2_ := (Option.bind_some _ _).symm.trans H; rw [hy156]; with_reducible exact H2_) | (have H2_ := (Option.bind_some _ _).symm.trans H; with_reducible exact H2_) | with_reducible exact H | (rw [hy156]; exact H) | exact H
                                  have Ny156 := Aside0.mk hy156
                                  clear hy156
                                  simp only [Option.some.injEq, Prod.mk.injEq] at H
                                  obtain ⟨rfl, rfl⟩ := H
                                  obtain ⟨Ao18, co18, eo18⟩ := Kd.S_slice HO_11.out
                                  subst eo18
                                  have p150 : 0 ≤ (x12_4 : Int) := of_decide_eq_true (by first | (with_reducible assumption) | assumption)
                                  have q150 : x12_4 < (t147.length : Int) := of_decide_eq_true (by first | (with_reducible assumption) | assumption)
                                  obtain ⟨ad150, A150_0, c150_0, e150, hx150_0, hl150_0, hi150_0⟩ := at_L1 (Kd.S_reads' HO_11.out).2.2 x12_4 p150 q150
                                  cases e150
                                  obtain ⟨ce150, hce150, hMe150, hcc150⟩ := Kd.S_get HO_11.out [] x12_4 p150 (by first | exact q150 | exact of_decide_eq_true (by first | (with_reducible assumption) | assumption) | (have e_ := (Kd.S_reads' HO_11.out).1; omega))
                                  obtain ⟨ve150_0, rfl, ge150_0⟩ := hMe150
                                  have hv150_0 := hcc150 0 _ rfl
                                  rw [Nat.add_zero, show ((Kd.slice 3 (Kd.int .i64))).sz = 1 from rfl, Nat.mul_one] at hv150_0
                                  replace hv150_0 := Option.some.inj (hv150_0.symm.trans hx150_0)
                                  rw [hv150_0] at ge150_0
                                  have HL150_0 := Aside0.mk (show Kd.R (Kd.int .i64) 3 _ _ _ _ (rd_L1 t147 x12_4) from ge150_0)
                                  clear hv150_0 ge150_0
                                  clear hcc150 hce150
                                  have HR150_0 := Aside0.mk hi150_0
                                  have HC150_0 := Aside0.mk hl150_0
                                  clear hi150_0 hl150_0
                                  replace p150 := eq_true p150
                                  replace q150 := eq_true q150
                                  go_wp2_with (first | ((with_reducible refine gate_callee (f := 51) rfl ?_); refine goesL_ (some 52) rfl rfl Tryd.func51 (by kernel_rfl) rfl #[.slice A1 l1.length c1, .int .i64 x9_2, .slice A150_0 (rd_L1 t147 x12_4).length c150_0] rfl (by (try simp only [List.map_toArray, List.map_cons, List.map_nil]); first | done | rfl | (simp only [List.length_drop, List.length_take]; rfl)) ?_; (with_reducible refine (neonwrightref05_hidden.calls k4 _ _ l1 x9_2 _ _ (rd_L1 t147 x12_4) true _ ?side1 ?side2 ?side3 ?side4 A15.out).mono ?_); (case side1 => repeat (first | exact (Kd.C_below HR1.out HB.out) | (with_reducible refine Kd.C_alloc ?_ _) | (with_reducible refine Kd.C_drewN ?_ _) | (with_reducible refine Kd.C_drew ?_))); (case side2 => exact HC1.out); (case side3 => repeat (first | exact (by repeat (first | (with_reducible exact HR150_0.out) | (with_reducible refine Kd.C_alloc ?_ _) | (with_reducible refine Kd.C_drewN ?_ _) | (with_reducible refine Kd.C_drew ?_) | exact HR150_0.out)) | (with_reducible refine Kd.C_alloc ?_ _) | (with_reducible refine Kd.C_drewN ?_ _) | (with_reducible refine Kd.C_drew ?_))); (case side4 => exact HC150_0.out); rintro e w' ⟨rfl, ⟨nd, rfl⟩⟩; refine ⟨_, rfl, ?_⟩) | ((with_reducible refine gate_dst (N := 54) rfl ?_); refine Kd.R_lit (Kd.int .i64) _ 3 ?hg (N := 54) ?hd (xs := ([x9_2] : List Int)) (inner := [.int .i64 x9_2]) (ok := fun _ => True) (okp := fun _ => True) ?hr ?hp (fun _ hk => hk) trivial (Below.refl _ _) (Nat.le_refl _) (by simp) ?_; (case hd => rfl); (case hg => rfl); (case hr => first | (go_simp; done) | (go_simp; rfl)); (case hp => exact (Reps.one (show Kd.M (Kd.int .i64) _ _ _ x9_2 [.int .i64 x9_2] from rfl) (Reps.none _ _))); intro v153 w19 ho20 hb hg_ hnew_; clear hg_ hnew_; (first | rw [← Ny152.out] at ho20 | (simp only [Int.reduceToNat] at ho20; rw [← Ny152.out] at ho20)); have n0_ := Aside0.mk (Kd.S_elder' (by (with_reducible repeat (first | apply Kd.S_alloc | apply Kd.S_drewN | apply Kd.S_drew)); exact HO_11.out) (Kd.R_base ho20) hb); have n1_ := Aside0.mk (Kd.R_elder' (by (with_reducible repeat (first | apply Kd.R_alloc | apply Kd.R_drewN | apply Kd.R_drew)); exact HL150_0.out) (Kd.R_base ho20) hb); have n2_ := Aside0.mk (Kd.R_lower (Kd.R_new' ho20 (Kd.R_lt (by (with_reducible repeat (first | apply Kd.R_alloc | apply Kd.R_drewN | apply Kd.R_drew)); exact HL150_0.out))) (below_size (by repeat (first | (with_reducible first | exact HB.out | apply below_alloc | apply pw_below_drewN | apply below_drew1) | exact HB.out)))); have n3_ := Aside0.mk (Kd.C_below (by repeat (first | (with_reducible exact HR150_0.out) | (with_reducible refine Kd.C_alloc ?_ _) | (with_reducible refine Kd.C_drewN ?_ _) | (with_reducible refine Kd.C_drew ?_) | exact HR150_0.out)) hb); have n4_ := Aside0.mk (below_step (by repeat (first | (with_reducible first | exact HB.out | apply below_alloc | apply pw_below_drewN | apply below_drew1) | exact HB.out)) hb); clear HO_11; clear HL150_0; clear HR150_0; clear HB; have HO_11 := n0_; have HL150_0 := n1_; have HO154 := n2_; have HR150_0 := n3_; have HB := n4_; clear n0_ n1_ n2_ n3_ n4_; clear hb ho20; have p155 : 0 ≤ (x12_4 : Int) := of_decide_eq_true (by first | (with_reducible assumption) | assumption); have q155 : x12_4 < (t147.length : Int) := of_decide_eq_true (by first | (with_reducible assumption) | assumption); obtain ⟨ad155, A155_0, c155_0, e155, hx155_0, hl155_0, hi155_0⟩ := at_L1 (Kd.S_reads' HO_11.out).2.2 x12_4 p155 q155; obtain rfl : ad150 = ad155 := (by injection e155); obtain ⟨ce155, hce155, hMe155, hcc155⟩ := Kd.S_get HO_11.out [] x12_4 p155 (by first | exact q155 | exact of_decide_eq_true (by first | (with_reducible assumption) | assumption) | (have e_ := (Kd.S_reads' HO_11.out).1; omega)); obtain ⟨ve155_0, rfl, ge155_0⟩ := hMe155; have hv155_0 := hcc155 0 _ rfl; rw [Nat.add_zero, show ((Kd.slice 3 (Kd.int .i64))).sz = 1 from rfl, Nat.mul_one] at hv155_0; replace hv155_0 := Option.some.inj (hv155_0.symm.trans hx155_0); rw [hv155_0] at ge155_0; have HL155_0 := Aside0.mk (show Kd.R (Kd.int .i64) 3 _ _ _ _ (rd_L1 t147 x12_4) from ge155_0); clear hv155_0 ge155_0; clear hcc155 hce155; have HR155_0 := Aside0.mk hi155_0; have HC155_0 := Aside0.mk hl155_0; clear hi155_0 hl155_0; replace p155 := eq_true p155; replace q155 := eq_true q155) | ((with_reducible refine gate_builtin (b := .append) (xs := #[.tmp 55, .tmp 59]) rfl ?_); at_builtin; refine Kd.R_append_rows (Kd.int .i64) (w0 := w) w.heap.size rfl (.tmp 55) (.tmp 59) 25 3 (.int .i64 0) 8 rfl Tryd.underlying25 info3 rfl (by decide) (by omega) v153 y152 (rd_L1 t147 x12_4) _ _ _ (fun k_ => some k_ ≠ (.slice A150_0 (rd_L1 t147 x12_4).length c150_0 : Value).ownBlock) (fun _ => False) rfl rfl ?aO ?aR (fun _ _ h => h) (fun _ h => h.elim) ?aF ?aB ?aS ?aL ?_; (case aR => repeat (first | exact (by repeat (first | (with_reducible exact HR155_0.out) | (with_reducible refine Kd.C_alloc ?_ _) | (with_reducible refine Kd.C_drewN ?_ _) | (with_reducible refine Kd.C_drew ?_) | exact HR155_0.out)) | (with_reducible refine Kd.C_alloc ?_ _) | (with_reducible refine Kd.C_drewN ?_ _) | (with_reducible refine Kd.C_drew ?_))); (case aB => exact (by repeat (first | (with_reducible first | exact HB.out | apply below_alloc | apply pw_below_drewN | apply below_drew1) | exact HB.out))); (case aF => exact (fun k_ hk => Kd.fresh' (Kd.R_lt (by (with_reducible repeat (first | apply Kd.R_alloc | apply Kd.R_drewN | apply Kd.R_drew)); exact HL150_0.out)) k_ hk)); (case aO => exact (by (with_reducible repeat (first | apply Kd.R_alloc | apply Kd.R_drewN | apply Kd.R_drew)); exact Kd.R_mono HO154.out (fun _ hk => hk.2))); (case aS => exact (below_size (by repeat (first | (with_reducible first | exact HB.out | apply below_alloc | apply pw_below_drewN | apply below_drew1) | exact HB.out)))); (case aL => have := LMc17.out; omega); intro v157 w21 ho hb hg hat; rw [← Ny156.out] at ho; have n0_ := Aside0.mk (Kd.S_after (ok := (fun _ => True)) (by (with_reducible repeat (first | apply Kd.S_alloc | apply Kd.S_drewN | apply Kd.S_drew)); exact HO_11.out) hg hat); have n1_ := Aside0.mk (Kd.R_after (ok := (fun k_ => some k_ ≠ (.slice (some ad150) t147.length co18 : Value).ownBlock)) (by (with_reducible repeat (first | apply Kd.R_alloc | apply Kd.R_drewN | apply Kd.R_drew)); exact Kd.R_mono HL150_0.out (fun _ hk => ⟨hk.1.2, hk.2⟩)) hg hat); have n2_ := Aside0.mk (Kd.R_after (ok := (fun k_ => some k_ ≠ (.slice (some ad150) t147.length co18 : Value).ownBlock)) (by (with_reducible repeat (first | apply Kd.R_alloc | apply Kd.R_drewN | apply Kd.R_drew)); exact Kd.R_mono HL155_0.out (fun _ hk => ⟨hk.2, hk.1.2⟩)) hg hat); have n3_ := Aside0.mk (hb); have n4_ := Aside0.mk (ho); clear HO_11; clear HL150_0; clear HL155_0; clear HB; clear HO154; have HO_11 := n0_; have HL150_0 := n1_; have HL155_0 := n2_; have HB := n3_; have HO158 := n4_; clear n0_ n1_ n2_ n3_ n4_; clear ho hb hg hat))
                                  go_ret2
                                  exact ⟨_, by first | rfl | (simp [errW_none, errW_some] <;> rfl) | (simp [*, errW_none, errW_some] <;> rfl), by (with_reducible repeat (first | apply Kd.R_alloc | apply Kd.R_drewN | apply Kd.R_drew)); exact Kd.R_mono HO158.out (fun _ hk => trivial), by repeat (first | (with_reducible first | exact HB.out | apply below_alloc | apply pw_below_drewN | apply below_drew1) | exact HB.out)⟩
                                · rw [if_neg c17] at H
                                  exact absurd H (by simp)
                              · replace c16 := Bool.eq_false_iff.mpr c16
                                subst c16
                                have H1 : (neonwrightref05_Hidden.l2 k4 a0 l1 a2 x9_2 x10_3 t147 (wrap64 (x12_4 + 1))) = some (r1, r2) := by rw [if_neg (show ¬ (false = true) by decide)] at H; exact H
                                clear H
                                have H := H1
                                clear H1
                                have H' := Aside0.mk H
                                clear H
                                obtain ⟨Ao22, co22, eo22⟩ := Kd.S_slice HO_11.out
                                subst eo22
                                have p150 : 0 ≤ (x12_4 : Int) := of_decide_eq_true (by first | (with_reducible assumption) | assumption)
                                have q150 : x12_4 < (t147.length : Int) := of_decide_eq_true (by first | (with_reducible assumption) | assumption)
                                obtain ⟨ad150, A150_0, c150_0, e150, hx150_0, hl150_0, hi150_0⟩ := at_L1 (Kd.S_reads' HO_11.out).2.2 x12_4 p150 q150
                                cases e150
                                obtain ⟨ce150, hce150, hMe150, hcc150⟩ := Kd.S_get HO_11.out [] x12_4 p150 (by first | exact q150 | exact of_decide_eq_true (by first | (with_reducible assumption) | assumption) | (have e_ := (Kd.S_reads' HO_11.out).1; omega))
                                obtain ⟨ve150_0, rfl, ge150_0⟩ := hMe150
                                have hv150_0 := hcc150 0 _ rfl
                                rw [Nat.add_zero, show ((Kd.slice 3 (Kd.int .i64))).sz = 1 from rfl, Nat.mul_one] at hv150_0
                                replace hv150_0 := Option.some.inj (hv150_0.symm.trans hx150_0)
                                rw [hv150_0] at ge150_0
                                have HL150_0 := Aside0.mk (show Kd.R (Kd.int .i64) 3 _ _ _ _ (rd_L1 t147 x12_4) from ge150_0)
                                clear hv150_0 ge150_0
                                clear hcc150 hce150
                                have HR150_0 := Aside0.mk hi150_0
                                have HC150_0 := Aside0.mk hl150_0
                                clear hi150_0 hl150_0
                                replace p150 := eq_true p150
                                replace q150 := eq_true q150
                                go_wp2_with (first | ((with_reducible refine gate_callee (f := 51) rfl ?_); refine goesL_ (some 52) rfl rfl Tryd.func51 (by kernel_rfl) rfl #[.slice A1 l1.length c1, .int .i64 x9_2, .slice A150_0 (rd_L1 t147 x12_4).length c150_0] rfl (by (try simp only [List.map_toArray, List.map_cons, List.map_nil]); first | done | rfl | (simp only [List.length_drop, List.length_take]; rfl)) ?_; (with_reducible refine (neonwrightref05_hidden.calls k4 _ _ l1 x9_2 _ _ (rd_L1 t147 x12_4) false _ ?side1 ?side2 ?side3 ?side4 A15.out).mono ?_); (case side1 => repeat (first | exact (Kd.C_below HR1.out HB.out) | (with_reducible refine Kd.C_alloc ?_ _) | (with_reducible refine Kd.C_drewN ?_ _) | (with_reducible refine Kd.C_drew ?_))); (case side2 => exact HC1.out); (case side3 => repeat (first | exact (by repeat (first | (with_reducible exact HR150_0.out) | (with_reducible refine Kd.C_alloc ?_ _) | (with_reducible refine Kd.C_drewN ?_ _) | (with_reducible refine Kd.C_drew ?_) | exact HR150_0.out)) | (with_reducible refine Kd.C_alloc ?_ _) | (with_reducible refine Kd.C_drewN ?_ _) | (with_reducible refine Kd.C_drew ?_))); (case side4 => exact HC150_0.out); rintro e w' ⟨rfl, ⟨nd, rfl⟩⟩; refine ⟨_, rfl, ?_⟩))
                                go_roundg k4
                                case measure => have := HJ5.out; have := HK2.out; have := HK3.out; have := HK4.out; omega
                                case rel => exact ⟨(wrap64 (x12_4 + 1)), (by first | rfl | (simp; done) | (simp [*]; done)), H', ⟨by have := HJ5.out; have := HK2.out; have := HK3.out; have := HK4.out; omega⟩, ⟨by (with_reducible repeat (first | apply Kd.S_alloc | apply Kd.S_drewN | apply Kd.S_drew)); first | exact HO_11.out | exact Kd.R_mono HO_11.out (fun k_ h_ => ne_own_len h_)⟩, ⟨by repeat (first | (with_reducible first | exact HB.out | apply below_alloc | apply pw_below_drewN | apply below_drew1) | exact HB.out)⟩⟩
                            · rw [if_neg c14] at H
                              exact absurd H (by simp)
                          · rw [if_neg c13] at H
                            have c13b0 : decide (x12_4 < (t147.length : Int)) = false := decide_eq_false c13
                            clear c13
                            have H' := Aside0.mk H
                            clear H
                            obtain ⟨Ao23, co23, eo23⟩ := Kd.S_slice HO_11.out
                            subst eo23
                            go_wp2
                            go_roundg k4
                            case measure => have := HJ5.out; have := HK2.out; have := HK3.out; have := HK4.out; omega
                            case rel => exact ⟨(wrap64 (x10_3 + 1)), (by first | rfl | (simp; done) | (simp [*]; done)), H', ⟨by have := HJ5.out; have := HK2.out; have := HK3.out; have := HK4.out; omega⟩, ⟨by repeat (first | (with_reducible first | exact HB.out | apply below_alloc | apply pw_below_drewN | apply below_drew1) | exact HB.out)⟩⟩
                    · rw [if_neg c10] at H
                      have c10b0 : decide (x10_3 ≤ a2) = false := decide_eq_false c10
                      clear c10
                      have H' := Aside0.mk H
                      clear H
                      go_wp2
                      go_roundg k3
                      case measure => have := HJ5.out; have := HK2.out; have := HK3.out; omega
                      case rel => exact ⟨(wrap64 (x9_2 + 1)), (by first | rfl | (simp; done) | (simp [*]; done)), H', ⟨by have := HJ5.out; have := HK2.out; have := HK3.out; omega⟩, ⟨by repeat (first | (with_reducible first | exact HB.out | apply below_alloc | apply pw_below_drewN | apply below_drew1) | exact HB.out)⟩⟩
              · rw [if_neg c9] at H
                have c9b0 : decide (x9_2 < a0) = false := decide_eq_false c9
                clear c9
                simp only [Option.some.injEq, Prod.mk.injEq] at H
                obtain ⟨rfl, rfl⟩ := H
                go_wp2
                go_ret2
                exact ⟨_, by first | rfl | (simp [errW_none, errW_some] <;> rfl) | (simp [*, errW_none, errW_some] <;> rfl), by first | exact Kd.R_nil _ _ _ _ _ | exact Kd.N_nil _ _ _ _ _ | exact Kd.V_nil _ _ _ _ _ | exact Kd.Q_nil _ _ _ _ _ | exact Kd.S_nil _ _ _ _ _, by repeat (first | (with_reducible first | exact HB.out | apply below_alloc | apply pw_below_drewN | apply below_drew1) | exact HB.out)⟩
  · rw [if_neg c5] at H
    have c5b0 : (t146 == 0) = false := beq_eq_false_iff_ne.mpr c5
    have c5b1 : (t146 != 0) = true := bne_iff_ne.mpr c5
    simp only [Option.some.injEq, Prod.mk.injEq] at H
    obtain ⟨rfl, rfl⟩ := H
    go_enter Tryd.func19, Tryd.ntmps19
    go_wp2_with (first | ((with_reducible refine gate_callee (f := 49) rfl ?_); refine goesL_ (some 16) rfl rfl Tryd.func49 (by kernel_rfl) rfl #[.int .i64 a0, .slice A1 l1.length c1] rfl (by (try simp only [List.map_toArray, List.map_cons, List.map_nil]); first | done | rfl | (simp only [List.length_drop, List.length_take]; rfl)) ?_; (with_reducible refine (neonwrightref05_Design.calls k a0 _ _ l1 t146 _ ?side1 ?side2 A4.out).mono ?_); (case side1 => repeat (first | exact HR1.out | (with_reducible refine Kd.C_alloc ?_ _) | (with_reducible refine Kd.C_drewN ?_ _) | (with_reducible refine Kd.C_drew ?_))); (case side2 => exact HC1.out); rintro e w' ⟨rfl, ⟨nd, rfl⟩⟩; refine ⟨_, rfl, ?_⟩))
    go_ret2
    exact ⟨_, by first | rfl | (simp [errW_none, errW_some] <;> rfl) | (simp [*, errW_none, errW_some] <;> rfl), by first | exact Kd.R_nil _ _ _ _ _ | exact Kd.N_nil _ _ _ _ _ | exact Kd.V_nil _ _ _ _ _ | exact Kd.Q_nil _ _ _ _ _ | exact Kd.S_nil _ _ _ _ _, by repeat (first | (with_reducible first | exact HB.out | apply below_alloc | apply pw_below_drewN | apply below_drew1) | exact HB.out)⟩

end Go.Proofs.YtglajokjiphafaaDoor.P

set_option linter.unusedSimpArgs false
set_option linter.unusedVariables false
namespace Go.Proofs.YtglajokjiphafaaDoor.P
open Go.Lib Go.RowKit Go.Proofs.YtglajokjiphafaaDoorW.PrintWords Go.Proofs.YtglajokjiphafaaDoorW.PrintLast Go.Proofs.YtglajokjiphafaaDoorW.PrintMore Go.Proofs.YtglajokjiphafaaDoor.Kit

theorem has_l0 (l : List Int) (a : Int) (hl : l.length ≤ 4611686018427387904) : ∀ m i, l.length - i = m → i ≤ l.length → Ev (fun k => neonwrightref05_has.l0 k l a (i : Int)) ((l.drop i).contains a) := by
  intro m
  induction m with
  | zero =>
    intro i hm hi
    have hie : i = l.length := by omega
    subst hie
    rw [List.drop_length]
    refine Ev.step (fun k => ?_) (Ev.now false)
    simp only [neonwrightref05_has.l0]
    rw [if_neg (by omega)]
  | succ m ih =>
    intro i hm hi
    have hlt : i < l.length := by omega
    rw [List.drop_eq_getElem_cons hlt, List.contains_cons]
    by_cases e : l[i] = a
    · have e2 : (a == l[i]) = true := by simp [e]
      rw [e2, Bool.true_or]
      refine Ev.step (fun k => ?_) (Ev.now true)
      simp only [neonwrightref05_has.l0]
      rw [if_pos (by omega), if_pos (by omega), rd_get l i hlt, if_pos e]
    · have e2 : (a == l[i]) = false := by simp; exact fun h => e h.symm
      rw [e2, Bool.false_or]
      refine Ev.step (fun k => ?_) (ih (i + 1) (by omega) (by omega))
      simp only [neonwrightref05_has.l0]
      rw [if_pos (by omega), if_pos (by omega), rd_get l i hlt, if_neg e, wrap1 (by omega)]
theorem has_ev (l : List Int) (a : Int) (hl : l.length ≤ 4611686018427387904) : Ev (fun k => neonwrightref05_has.f k l a) (l.contains a) := by
  have := has_l0 l a hl l.length 0 (by omega) (by omega)
  rw [List.drop_zero] at this
  exact this
theorem meets_l0 (l o : List Int) (hl : l.length ≤ 4611686018427387904) (ho : o.length ≤ 4611686018427387904) : ∀ m i, l.length - i = m → i ≤ l.length → Ev (fun k => neonwrightref05_meets.l0 k l o (i : Int)) ((l.drop i).any fun x => o.contains x) := by
  intro m
  induction m with
  | zero =>
    intro i hm hi
    have hie : i = l.length := by omega
    subst hie
    rw [List.drop_length]
    refine Ev.step (fun k => ?_) (Ev.now false)
    simp only [neonwrightref05_meets.l0]
    rw [if_neg (by omega)]
  | succ m ih =>
    intro i hm hi
    have hlt : i < l.length := by omega
    have h1 := has_ev o l[i] ho
    rw [List.drop_eq_getElem_cons hlt, List.any_cons]
    cases hc : o.contains l[i] with
    | true =>
      rw [hc] at h1
      rw [Bool.true_or]
      refine Ev.step (f := fun k => (neonwrightref05_has.f k o l[i]).bind fun t => if t = true then some true else neonwrightref05_meets.l0 k l o ((i + 1 : Nat) : Int)) (fun k => ?_) (Ev.bnd h1 (Ev.now true))
      simp only [neonwrightref05_meets.l0]
      rw [if_pos (by omega), if_pos (by omega), rd_get l i hlt, wrap1 (by omega)]
    | false =>
      rw [hc] at h1
      rw [Bool.false_or]
      refine Ev.step (f := fun k => (neonwrightref05_has.f k o l[i]).bind fun t => if t = true then some true else neonwrightref05_meets.l0 k l o ((i + 1 : Nat) : Int)) (fun k => ?_) (Ev.bnd h1 (ih (i + 1) (by omega) (by omega)))
      simp only [neonwrightref05_meets.l0]
      rw [if_pos (by omega), if_pos (by omega), rd_get l i hlt, wrap1 (by omega)]
theorem meets_ev (l o : List Int) (hl : l.length ≤ 4611686018427387904) (ho : o.length ≤ 4611686018427387904) : Ev (fun k => neonwrightref05_meets.f k l o) (l.any fun x => o.contains x) := by
  have := meets_l0 l o hl ho l.length 0 (by omega) (by omega)
  rw [List.drop_zero] at this
  exact this
theorem any_swap (a b : List Int) : (a.any fun x => b.contains x) = b.any fun x => a.contains x := by
  rw [Bool.eq_iff_iff, List.any_eq_true, List.any_eq_true]
  constructor
  · rintro ⟨x, h1, h2⟩; exact ⟨x, by simpa using h2, by simpa using h1⟩
  · rintro ⟨x, h1, h2⟩; exact ⟨x, by simpa using h2, by simpa using h1⟩
theorem hidden_l0 (d : List (List Int)) (t : Int) (o : List Int) (hd : d.length ≤ 4611686018427387904) (hr : ∀ r ∈ d, r.length ≤ 4611686018427387904) (ho : o.length ≤ 4611686018427387904) :
    ∀ m i, d.length - i = m → i ≤ d.length → Ev (fun k => neonwrightref05_hidden.l0 k d t o (i : Int)) (hidB (d.drop i) t o) := by
  intro m
  induction m with
  | zero =>
    intro i hm hi
    have hie : i = d.length := by omega
    subst hie
    rw [List.drop_length]
    refine Ev.step (fun k => ?_) (Ev.now true)
    simp only [neonwrightref05_hidden.l0]
    rw [if_neg (by omega)]
  | succ m ih =>
    intro i hm hi
    have hlt : i < d.length := by omega
    have hri := hr d[i] (List.getElem_mem hlt)
    have h1 := has_ev d[i] t hri
    have h2 := meets_ev d[i] o hri ho
    have h3 := ih (i + 1) (by omega) (by omega)
    have hcons : hidB (d[i] :: d.drop (i + 1)) t o = ((!d[i].contains t || o.any fun x => d[i].contains x) && hidB (d.drop (i + 1)) t o) := rfl
    rw [List.drop_eq_getElem_cons hlt, hcons, ← any_swap]
    refine Ev.step (f := fun k => (neonwrightref05_has.f k d[i] t).bind fun t162 => if t162 = true then ((neonwrightref05_meets.f k d[i] o).bind fun t164 => if t164 = true then neonwrightref05_hidden.l0 k d t o ((i + 1 : Nat) : Int) else some false) else neonwrightref05_hidden.l0 k d t o ((i + 1 : Nat) : Int)) (fun k => ?_) ?_
    · simp only [neonwrightref05_hidden.l0]
      rw [if_pos (by omega), if_pos (by omega), rdL_get d i hlt, wrap1 (by omega)]
    · refine Ev.bnd h1 ?_
      cases hc : d[i].contains t with
      | false => simpa using h3
      | true =>
        cases hm2 : (d[i].any fun x => o.contains x) with
        | true => rw [hm2] at h2; simpa using Ev.bnd h2 (f := fun k t164 => if t164 = true then neonwrightref05_hidden.l0 k d t o ((i + 1 : Nat) : Int) else some false) (by simpa using h3)
        | false => rw [hm2] at h2; simpa using Ev.bnd h2 (f := fun k t164 => if t164 = true then neonwrightref05_hidden.l0 k d t o ((i + 1 : Nat) : Int) else some false) (Ev.now false)
theorem hidden_ev (d : List (List Int)) (t : Int) (o : List Int) (hd : d.length ≤ 4611686018427387904) (hr : ∀ r ∈ d, r.length ≤ 4611686018427387904) (ho : o.length ≤ 4611686018427387904) :
    Ev (fun k => neonwrightref05_hidden.f k d t o) (hidB d t o) := by
  have := hidden_l0 d t o hd hr ho d.length 0 (by omega) (by omega)
  rw [List.drop_zero] at this
  exact this
theorem rrising_l0 (n : Int) (l : List Int) (hl : l.length ≤ 4611686018427387904) : ∀ d i, l.length - i = d → i ≤ l.length → Ev (fun k => neonwrightref05_rising.l0 k l n (i : Int)) (risFrom n l d i) := by
  intro d
  induction d with
  | zero =>
    intro i hd hi
    refine Ev.step (fun k => ?_) (Ev.now true)
    simp only [neonwrightref05_rising.l0]
    rw [if_neg (by omega)]
  | succ d ih =>
    intro i hd hi
    have h1 := ih (i + 1) (by omega) (by omega)
    have hw := wrap1 (i := i) (by omega)
    simp only [risFrom, risStep]
    by_cases c1 : rd l (i : Int) < 0
    · rw [decide_eq_false (show ¬ (0 ≤ rd l (i : Int)) by omega)]
      refine Ev.step (fun k => ?_) (Ev.now false)
      simp only [neonwrightref05_rising.l0]
      rw [if_pos (by omega), if_pos (by omega), if_pos c1]
    · rw [decide_eq_true (show 0 ≤ rd l (i : Int) by omega), Bool.true_and]
      by_cases c2 : rd l (i : Int) ≥ n
      · rw [decide_eq_false (show ¬ (rd l (i : Int) < n) by omega)]
        refine Ev.step (fun k => ?_) (Ev.now false)
        simp only [neonwrightref05_rising.l0]
        rw [if_pos (by omega), if_pos (by omega), if_neg c1, if_pos c2]
      · rw [decide_eq_true (show rd l (i : Int) < n by omega), Bool.true_and]
        by_cases c3 : i = 0
        · rw [decide_eq_true c3, Bool.true_or, Bool.true_and]
          refine Ev.step (fun k => ?_) h1
          simp only [neonwrightref05_rising.l0]
          rw [if_pos (by omega), if_pos (by omega), if_neg c1, if_neg c2, if_neg (by omega), hw]
        · have hw2 : wrap64 ((i : Int) - 1) = ((i - 1 : Nat) : Int) := by rw [w64 (by omega) (by omega)]; omega
          rw [decide_eq_false c3, Bool.false_or]
          by_cases c4 : rd l (i : Int) ≤ rd l ((i - 1 : Nat) : Int)
          · rw [decide_eq_false (show ¬ (rd l ((i - 1 : Nat) : Int) < rd l (i : Int)) by omega)]
            refine Ev.step (fun k => ?_) (Ev.now false)
            simp only [neonwrightref05_rising.l0]
            rw [if_pos (by omega), if_pos (by omega), if_neg c1, if_neg c2, if_pos (by omega), hw2, if_pos (by omega), if_pos (by omega), if_pos c4]
          · rw [decide_eq_true (show rd l ((i - 1 : Nat) : Int) < rd l (i : Int) by omega), Bool.true_and]
            refine Ev.step (fun k => ?_) h1
            simp only [neonwrightref05_rising.l0]
            rw [if_pos (by omega), if_pos (by omega), if_neg c1, if_neg c2, if_pos (by omega), hw2, if_pos (by omega), if_pos (by omega), if_neg c4, hw]
theorem rrising_ev (n : Int) (l : List Int) (hl : l.length ≤ 4611686018427387904) : Ev (fun k => neonwrightref05_rising.f k l n) (risB n l) := rrising_l0 n l hl l.length 0 (by omega) (by omega)
theorem design_l0 (n : Int) (d : List (List Int)) (hd : d.length ≤ 60) (hr : ∀ r ∈ d, r.length ≤ 4611686018427387904) : ∀ m i, d.length - i = m → i ≤ d.length →
    Ev (fun k => neonwrightref05_Design.l0 k n d (i : Int)) (if (d.drop i).all (risB n) = true then 0 else 2) := by
  intro m
  induction m with
  | zero =>
    intro i hm hi
    have hie : i = d.length := by omega
    subst hie
    rw [List.drop_length]
    refine Ev.step (fun k => ?_) (Ev.now 0)
    simp only [neonwrightref05_Design.l0]
    rw [if_neg (by omega)]
  | succ m ih =>
    intro i hm hi
    have hlt : i < d.length := by omega
    have h1 := rrising_ev n d[i] (hr d[i] (List.getElem_mem hlt))
    have h2 := ih (i + 1) (by omega) (by omega)
    rw [List.drop_eq_getElem_cons hlt, List.all_cons]
    refine Ev.step (f := fun k => (neonwrightref05_rising.f k d[i] n).bind fun t => if t = true then neonwrightref05_Design.l0 k n d ((i + 1 : Nat) : Int) else some 2) (fun k => ?_) ?_
    · simp only [neonwrightref05_Design.l0]
      rw [if_pos (by omega), if_pos (by omega), rdL_get d i hlt, wrap1 (by omega)]
    · refine Ev.bnd h1 ?_
      cases hc : risB n d[i] with
      | true => simpa using h2
      | false => simpa using Ev.now (2 : Int)
theorem design_ev (n : Int) (d : List (List Int)) (hr : ∀ r ∈ d, r.length ≤ 4611686018427387904) : Ev (fun k => neonwrightref05_Design.f k n d) (ofN n d) := by
  unfold ofN
  by_cases h1 : n < 1
  · rw [if_neg (by omega)]
    refine Ev.congr (f := fun k => neonwrightref05_Design.j0 k n d true) (fun k => by unfold neonwrightref05_Design.f; rw [if_pos h1]) (Ev.step (fun k => ?_) (Ev.now 2))
    simp only [neonwrightref05_Design.j0]; rfl
  · refine Ev.congr (f := fun k => neonwrightref05_Design.j0 k n d (decide (n > 49))) (fun k => by unfold neonwrightref05_Design.f; rw [if_neg h1]) ?_
    by_cases h2 : n > 49
    · rw [if_neg (by omega), decide_eq_true h2]
      refine Ev.step (fun k => ?_) (Ev.now 2)
      simp only [neonwrightref05_Design.j0]; rfl
    · rw [if_pos (by omega), decide_eq_false h2]
      by_cases h3 : d.length ≤ 60
      · rw [if_pos h3]
        have := design_l0 n d h3 hr d.length 0 (by omega) (by omega)
        rw [List.drop_zero] at this
        refine Ev.step (fun k => ?_) this
        simp only [neonwrightref05_Design.j0]
        rw [if_neg (by decide), if_neg (by omega)]
        rfl
      · rw [if_neg h3]
        refine Ev.step (fun k => ?_) (Ev.now 3)
        simp only [neonwrightref05_Design.j0]
        rw [if_neg (by decide), if_pos (by omega)]
end Go.Proofs.YtglajokjiphafaaDoor.P

namespace Go.Proofs.YtglajokjiphafaaDoor.P
open Go.RowKit Go.Proofs.YtglajokjiphafaaDoorW.PrintWords Go.Proofs.YtglajokjiphafaaDoorW.PrintLast Go.Proofs.YtglajokjiphafaaDoorW.PrintMore
attribute [local go_sem] max2_int min2_int max_two min_two max_three min_three max_four min_four   -- for this text's walks alone
set_option linter.unusedVariables false
set_option linter.unusedSimpArgs false

/-! ### neonwrightref05_outcomes: function 56 -/
def neonwrightref05_outcomes.l0 : Nat → List (List Int) → List Int → List Bool → Int → Option (List Bool)
  | 0, _, _, _, _ => none
  | k + 1, x0, x1, x5, x6 => if x6 < (x0.length : Int) then (if 0 ≤ x6 then ((neonwrightref05_meets.f k (rd_L1 x0 x6) x1).bind fun t242 => (if x5.length < 140737488355328 then (neonwrightref05_outcomes.l0 k x0 x1 (x5 ++ [t242]) (wrap64 (x6 + 1))) else (none))) else (none)) else (some x5)
def neonwrightref05_outcomes.f (k : Nat) (l0 : List (List Int)) (l1 : List Int) : Option (List Bool) := neonwrightref05_outcomes.l0 k l0 l1 ([] : List Bool) 0
theorem neonwrightref05_outcomes.mono_l : ∀ k, (∀ y0 y1 y2 y3, LeO (neonwrightref05_outcomes.l0 k y0 y1 y2 y3) (neonwrightref05_outcomes.l0 (k + 1) y0 y1 y2 y3))
  | 0 => fun _ _ _ _ r h => by simp [neonwrightref05_outcomes.l0] at h
  | k + 1 => by
    have ih0 := neonwrightref05_outcomes.mono_l k
    · intro y0 y1 y2 y3
      unfold neonwrightref05_outcomes.l0
      repeat' first
      | (with_reducible exact ih0 _ _ _ _)
      | (with_reducible exact neonwrightref05_meets.mono _ _ _)
      | (with_reducible exact LeO.refl _)
      | (with_reducible exact LeO.none _)
      | (with_reducible refine LeO.ite ?_ ?_)
      | (with_reducible refine LeO.bind ?_ (fun _ => ?_))
      | exact ih0 _ _ _ _
      | exact neonwrightref05_meets.mono _ _ _
      | exact LeO.none _
      | refine LeO.ite ?_ ?_
      | refine LeO.bind ?_ (fun _ => ?_)
theorem neonwrightref05_outcomes.mono : ∀ a0 a1 k, LeO (neonwrightref05_outcomes.f k a0 a1) (neonwrightref05_outcomes.f (k + 1) a0 a1) := by
  intro a0 a1 k
  have ih0 := neonwrightref05_outcomes.mono_l k
  unfold neonwrightref05_outcomes.f
  repeat' first
      | (with_reducible exact ih0 _ _ _ _)
      | (with_reducible exact neonwrightref05_meets.mono _ _ _)
      | (with_reducible exact LeO.refl _)
      | (with_reducible exact LeO.none _)
      | (with_reducible refine LeO.ite ?_ ?_)
      | (with_reducible refine LeO.bind ?_ (fun _ => ?_))
      | exact ih0 _ _ _ _
      | exact neonwrightref05_meets.mono _ _ _
      | exact LeO.none _
      | refine LeO.ite ?_ ?_
      | refine LeO.bind ?_ (fun _ => ?_)
set_option maxHeartbeats 8000000 in
set_option maxRecDepth 100000 in
theorem neonwrightref05_outcomes.calls (k : Nat) (A0 : Option Addr) (c0 : Nat) (l0 : List (List Int)) (A1 : Option Addr) (c1 : Nat) (l1 : List Int) (r : List Bool) (w : World) (hr0 : Kd.C (Kd.slice 3 (Kd.int .i64)) w A0 l0.length l0) (hc0 : l0.length ≤ c0) (hr1 : Kd.C (Kd.int .i64) w A1 l1.length l1) (hc1 : l1.length ≤ c1) (h : neonwrightref05_outcomes.f k l0 l1 = some r) :
    Calls Tryd.prog 56 #[.slice A0 l0.length c0, .slice A1 l1.length c1] w fun e w' => ∃ v0_ : Value, e = .returned (v0_) ∧ Kd.R Kd.bool 4 w' w.heap.size (fun _ => True) v0_ r ∧ Below w.heap.size w w' := by
  have HR0 := Aside0.mk hr0
  have HC0 := Aside0.mk hc0
  clear hr0 hc0
  have HR1 := Aside0.mk hr1
  have HC1 := Aside0.mk hc1
  clear hr1 hc1
  have HB := Aside0.mk (Below.refl w.heap.size w)
  have H : (neonwrightref05_outcomes.l0 k l0 l1 ([] : List Bool) 0) = some r := h
  clear h
  have H' := Aside0.mk H
  clear H
  go_enter Tryd.func56, Tryd.ntmps56
  go_wp2
  go_loopg [5, 6] k (fun kq v5 v6 w' => ∃ (x5_1 : List Bool) (x6_1 : Int), v6 = .int .i64 x6_1 ∧ Aside0 (neonwrightref05_outcomes.l0 kq l0 l1 x5_1 x6_1 = some r) ∧ Aside0 (kq ≤ k) ∧ Aside0 (Kd.R Kd.bool 4 w' w.heap.size (fun _ => True) v5 x5_1) ∧ Aside0 (Below w.heap.size w w'))
  case atStart => exact ⟨(([] : List Bool)), (0), (by first | rfl | (simp; done) | (simp [*]; done)), H', ⟨Nat.le_refl _⟩, ⟨by first | exact Kd.R_nil _ _ _ _ _ | exact Kd.N_nil _ _ _ _ _ | exact Kd.V_nil _ _ _ _ _ | exact Kd.Q_nil _ _ _ _ _ | exact Kd.S_nil _ _ _ _ _⟩, ⟨by repeat (first | (with_reducible first | exact HB.out | apply below_alloc | apply pw_below_drewN | apply below_drew1) | exact HB.out)⟩⟩
  case round =>
    clear H'
    try clear c1
    try clear p2
    obtain ⟨x5_1, x6_1, rfl, HA, HK1, HO_5, HB⟩ := hrel
    cases gk with
    | zero => exact absurd HA.out (by simp [neonwrightref05_outcomes.l0])
    | succ k1 =>
      have H := HA.out
      clear HA
      simp only [neonwrightref05_outcomes.l0] at H
      by_cases c3 : x6_1 < (l0.length : Int)
      · rw [if_pos c3] at H
        have c3b0 : decide (x6_1 < (l0.length : Int)) = true := decide_eq_true c3
        clear c3
        by_cases c4 : 0 ≤ x6_1
        · rw [if_pos c4] at H
          have c4b0 : decide (0 ≤ x6_1) = true := decide_eq_true c4
          clear c4
          replace H := Option.bind_eq_some_iff.mp H
          obtain ⟨t242, A50, H⟩ := H
          replace H : (if x5_1.length < 140737488355328 then (neonwrightref05_outcomes.l0 k1 l0 l1 (x5_1 ++ [t242]) (wrap64 (x6_1 + 1))) else (none)) = some r := H
          have A5 := Aside0.mk A50
          clear A50
          by_cases c6 : x5_1.length < 140737488355328
          · rw [if_pos c6] at H
            have LMc6 := Aside0.mk c6
            clear c6
            obtain ⟨y243, hy243⟩ : ∃ y_ : List Bool, y_ = (x5_1 ++ [t242]) := ⟨_, rfl⟩
            replace H : (neonwrightref05_outcomes.l0 k1 l0 l1 y243 (wrap64 (x6_1 + 1))) = some r := by first | (rw [hy243]; with_reducible exact H) | (have H2_ := (Option.bind_some _ _).symm.trans H; rw [hy243]; with_reducible exact H2_) | (have H2_ := (Option.bind_some _ _).symm.trans H; with_reducible exact H2_) | with_reducible exact H | (rw [hy243]; exact H) | exact H
            have Ny243 := Aside0.mk hy243
            clear hy243
            have H' := Aside0.mk H
            clear H
            have p241 : 0 ≤ (x6_1 : Int) := of_decide_eq_true (by first | (with_reducible assumption) | assumption)
            have q241 : x6_1 < (l0.length : Int) := of_decide_eq_true (by first | (with_reducible assumption) | assumption)
            obtain ⟨ad241, A241_0, c241_0, e241, hx241_0, hl241_0, hi241_0⟩ := at_L1 HR0.out x6_1 p241 q241
            cases e241
            replace hx241_0 := (HB.out.cell (World.block_lt_of_cell? w _ hx241_0)).trans hx241_0
            have HR241_0 := Aside0.mk hi241_0
            have HC241_0 := Aside0.mk hl241_0
            clear hi241_0 hl241_0
            replace p241 := eq_true p241
            replace q241 := eq_true q241
            go_wp2_with (first | ((with_reducible refine gate_callee (f := 79) rfl ?_); refine goesL_ (some 19) rfl rfl Tryd.func79 (by kernel_rfl) rfl #[.slice A241_0 (rd_L1 l0 x6_1).length c241_0, .slice A1 l1.length c1] rfl (by (try simp only [List.map_toArray, List.map_cons, List.map_nil]); first | done | rfl | (simp only [List.length_drop, List.length_take]; rfl)) ?_; (with_reducible refine (neonwrightref05_meets.calls k1 _ _ (rd_L1 l0 x6_1) _ _ l1 t242 _ ?side1 ?side2 ?side3 ?side4 A5.out).mono ?_); (case side1 => repeat (first | exact (Kd.C_below HR241_0.out HB.out) | (with_reducible refine Kd.C_alloc ?_ _) | (with_reducible refine Kd.C_drewN ?_ _) | (with_reducible refine Kd.C_drew ?_))); (case side2 => exact HC241_0.out); (case side3 => repeat (first | exact (Kd.C_below HR1.out HB.out) | (with_reducible refine Kd.C_alloc ?_ _) | (with_reducible refine Kd.C_drewN ?_ _) | (with_reducible refine Kd.C_drew ?_))); (case side4 => exact HC1.out); rintro e w' ⟨rfl, ⟨nd, rfl⟩⟩; refine ⟨_, rfl, ?_⟩) | ((with_reducible refine gate_builtin (b := .append) (xs := #[.tmp 13, .tmp 20]) rfl ?_); at_builtin; refine Kd.R_append Kd.bool (w0 := w) w.heap.size rfl (.tmp 13) (.tmp 20) 40 4 (.bool false) 1 rfl Tryd.underlying40 info4 rfl (by decide) (by omega) u5 x5_1 t242 [.bool t242] (fun _ => True) (fun _ => False) rfl rfl ?aP (fun _ hk => hk.elim) ?aF ?aO ?aB ?aS ?aL ?_; (case aP => exact rfl); (case aB => exact (by repeat (first | (with_reducible first | exact HB.out | apply below_alloc | apply pw_below_drewN | apply below_drew1) | exact HB.out))); (case aF => exact (fun _ _ => trivial)); (case aO => exact (by (with_reducible repeat (first | apply Kd.R_alloc | apply Kd.R_drewN | apply Kd.R_drew)); exact HO_5.out)); (case aS => exact (below_size (by repeat (first | (with_reducible first | exact HB.out | apply below_alloc | apply pw_below_drewN | apply below_drew1) | exact HB.out)))); (case aL => have := LMc6.out; omega); intro v244 w7 ho hb hg hat; rw [← Ny243.out] at ho; have n0_ := Aside0.mk (hb); have n1_ := Aside0.mk (ho); clear HB; clear HO_5; have HB := n0_; have HO245 := n1_; clear n0_ n1_; clear ho hb hg hat))
            go_roundg k1
            case measure => have := HK1.out; omega
            case rel => exact ⟨(y243), (wrap64 (x6_1 + 1)), (by first | rfl | (simp; done) | (simp [*]; done)), H', ⟨by have := HK1.out; omega⟩, ⟨by (with_reducible repeat (first | apply Kd.R_alloc | apply Kd.R_drewN | apply Kd.R_drew)); first | exact HO245.out | exact Kd.R_mono HO245.out (fun k_ h_ => ne_own_len h_)⟩, ⟨by repeat (first | (with_reducible first | exact HB.out | apply below_alloc | apply pw_below_drewN | apply below_drew1) | exact HB.out)⟩⟩
          · rw [if_neg c6] at H
            exact absurd H (by simp)
        · rw [if_neg c4] at H
          exact absurd H (by simp)
      · rw [if_neg c3] at H
        have c3b0 : decide (x6_1 < (l0.length : Int)) = false := decide_eq_false c3
        clear c3
        obtain rfl := Option.some.inj H
        go_wp2
        go_ret
        exact ⟨_, by first | rfl | (simp [errW_none, errW_some] <;> rfl) | (simp [*, errW_none, errW_some] <;> rfl), by (with_reducible repeat (first | apply Kd.R_alloc | apply Kd.R_drewN | apply Kd.R_drew)); exact HO_5.out, by repeat (first | (with_reducible first | exact HB.out | apply below_alloc | apply pw_below_drewN | apply below_drew1) | exact HB.out)⟩

end Go.Proofs.YtglajokjiphafaaDoor.P

namespace Go.Proofs.YtglajokjiphafaaDoor.P
open Go.RowKit Go.Proofs.YtglajokjiphafaaDoorW.PrintWords Go.Proofs.YtglajokjiphafaaDoorW.PrintLast Go.Proofs.YtglajokjiphafaaDoorW.PrintMore
attribute [local go_sem] max2_int min2_int max_two min_two max_three min_three max_four min_four   -- for this text's walks alone
set_option linter.unusedVariables false
set_option linter.unusedSimpArgs false

/-! ### neonwrightref05_sets: function 62 -/
mutual
def neonwrightref05_sets.l0 : Nat → Int → List (List Int) → List Bool → Int → Int → List Int → Bool → List Bool → Int → Option ((List (List Int)))
  | 0, _, _, _, _, _, _, _, _, _ => none
  | k + 1, x0, x1, x2, x3, x4, x5, x14, x15, x16 => if x16 < (x15.length : Int) then (if x14 = true then (if 0 ≤ x16 then (if x16 < (x2.length : Int) then (neonwrightref05_sets.l0 k x0 x1 x2 x3 x4 x5 ((rdOf false x15 x16) == (rdOf false x2 x16)) x15 (wrap64 (x16 + 1))) else (none)) else (none)) else (neonwrightref05_sets.l0 k x0 x1 x2 x3 x4 x5 false x15 (wrap64 (x16 + 1)))) else (if x14 = true then (if ([] : List (List Int)).length < 5864062014805 then (neonwrightref05_sets.j1 k x0 x1 x2 x3 x4 x5 (([] : List (List Int)) ++ [x5])) else (none)) else (neonwrightref05_sets.j1 k x0 x1 x2 x3 x4 x5 ([] : List (List Int))))
def neonwrightref05_sets.j1 : Nat → Int → List (List Int) → List Bool → Int → Int → List Int → List (List Int) → Option ((List (List Int)))
  | 0, _, _, _, _, _, _, _ => none
  | k + 1, x0, x1, x2, x3, x4, x5, x13 => neonwrightref05_sets.l1 k x0 x1 x2 x3 x5 x13 x4
def neonwrightref05_sets.l1 : Nat → Int → List (List Int) → List Bool → Int → List Int → List (List Int) → Int → Option ((List (List Int)))
  | 0, _, _, _, _, _, _, _ => none
  | k + 1, x0, x1, x2, x3, x5, x13, x17 => if x17 < x0 then (if x3 > 0 then (if ([] : List Int).length + x5.length < 17592186044416 then ((some (([] : List Int) ++ x5 : List Int)).bind fun y405 => (if y405.length < 17592186044416 then ((neonwrightref05_sets.f k x0 x1 x2 (wrap64 (x3 - 1)) (wrap64 (x17 + 1)) (y405 ++ [x17])).bind fun t411 => (if x13.length + t411.length < 5864062014805 then (neonwrightref05_sets.l1 k x0 x1 x2 x3 x5 (x13 ++ t411) (wrap64 (x17 + 1))) else (none))) else (none))) else (none)) else (some x13)) else (some x13)
def neonwrightref05_sets.f : Nat → Int → List (List Int) → List Bool → Int → Int → List Int → Option ((List (List Int)))
  | 0, _, _, _, _, _, _ => none
  | k + 1, a0, l1, l2, a3, a4, l5 => (neonwrightref05_outcomes.f k l1 l5).bind fun t397 => (neonwrightref05_sets.l0 k a0 l1 l2 a3 a4 l5 true t397 0)
end
theorem neonwrightref05_sets.mono_l : ∀ k, (∀ y0 y1 y2 y3 y4 y5, LeO (neonwrightref05_sets.f k y0 y1 y2 y3 y4 y5) (neonwrightref05_sets.f (k + 1) y0 y1 y2 y3 y4 y5)) ∧ (∀ y0 y1 y2 y3 y4 y5 y6 y7 y8, LeO (neonwrightref05_sets.l0 k y0 y1 y2 y3 y4 y5 y6 y7 y8) (neonwrightref05_sets.l0 (k + 1) y0 y1 y2 y3 y4 y5 y6 y7 y8)) ∧ (∀ y0 y1 y2 y3 y4 y5 y6, LeO (neonwrightref05_sets.j1 k y0 y1 y2 y3 y4 y5 y6) (neonwrightref05_sets.j1 (k + 1) y0 y1 y2 y3 y4 y5 y6)) ∧ (∀ y0 y1 y2 y3 y4 y5 y6, LeO (neonwrightref05_sets.l1 k y0 y1 y2 y3 y4 y5 y6) (neonwrightref05_sets.l1 (k + 1) y0 y1 y2 y3 y4 y5 y6))
  | 0 => ⟨fun _ _ _ _ _ _ r h => by simp [neonwrightref05_sets.f] at h, fun _ _ _ _ _ _ _ _ _ r h => by simp [neonwrightref05_sets.l0] at h, fun _ _ _ _ _ _ _ r h => by simp [neonwrightref05_sets.j1] at h, fun _ _ _ _ _ _ _ r h => by simp [neonwrightref05_sets.l1] at h⟩
  | k + 1 => by
    obtain ⟨ih0, ih1, ih2, ih3⟩ := neonwrightref05_sets.mono_l k
    refine ⟨?_, ?_, ?_, ?_⟩
    · intro y0 y1 y2 y3 y4 y5
      unfold neonwrightref05_sets.f
      repeat' first
      | (with_reducible exact ih0 _ _ _ _ _ _)
      | (with_reducible exact ih1 _ _ _ _ _ _ _ _ _)
      | (with_reducible exact ih2 _ _ _ _ _ _ _)
      | (with_reducible exact ih3 _ _ _ _ _ _ _)
      | (with_reducible exact neonwrightref05_outcomes.mono _ _ _)
      | (with_reducible exact LeO.refl _)
      | (with_reducible exact LeO.none _)
      | (with_reducible refine LeO.ite ?_ ?_)
      | (with_reducible refine LeO.bind ?_ (fun _ => ?_))
      | exact ih0 _ _ _ _ _ _
      | exact ih1 _ _ _ _ _ _ _ _ _
      | exact ih2 _ _ _ _ _ _ _
      | exact ih3 _ _ _ _ _ _ _
      | exact neonwrightref05_outcomes.mono _ _ _
      | exact LeO.none _
      | refine LeO.ite ?_ ?_
      | refine LeO.bind ?_ (fun _ => ?_)
    · intro y0 y1 y2 y3 y4 y5 y6 y7 y8
      unfold neonwrightref05_sets.l0
      repeat' first
      | (with_reducible exact ih0 _ _ _ _ _ _)
      | (with_reducible exact ih1 _ _ _ _ _ _ _ _ _)
      | (with_reducible exact ih2 _ _ _ _ _ _ _)
      | (with_reducible exact ih3 _ _ _ _ _ _ _)
      | (with_reducible exact neonwrightref05_outcomes.mono _ _ _)
      | (with_reducible exact LeO.refl _)
      | (with_reducible exact LeO.none _)
      | (with_reducible refine LeO.ite ?_ ?_)
      | (with_reducible refine LeO.bind ?_ (fun _ => ?_))
      | exact ih0 _ _ _ _ _ _
      | exact ih1 _ _ _ _ _ _ _ _ _
      | exact ih2 _ _ _ _ _ _ _
      | exact ih3 _ _ _ _ _ _ _
      | exact neonwrightref05_outcomes.mono _ _ _
      | exact LeO.none _
      | refine LeO.ite ?_ ?_
      | refine LeO.bind ?_ (fun _ => ?_)
    · intro y0 y1 y2 y3 y4 y5 y6
      unfold neonwrightref05_sets.j1
      repeat' first
      | (with_reducible exact ih0 _ _ _ _ _ _)
      | (with_reducible exact ih1 _ _ _ _ _ _ _ _ _)
      | (with_reducible exact ih2 _ _ _ _ _ _ _)
      | (with_reducible exact ih3 _ _ _ _ _ _ _)
      | (with_reducible exact neonwrightref05_outcomes.mono _ _ _)
      | (with_reducible exact LeO.refl _)
      | (with_reducible exact LeO.none _)
      | (with_reducible refine LeO.ite ?_ ?_)
      | (with_reducible refine LeO.bind ?_ (fun _ => ?_))
      | exact ih0 _ _ _ _ _ _
      | exact ih1 _ _ _ _ _ _ _ _ _
      | exact ih2 _ _ _ _ _ _ _
      | exact ih3 _ _ _ _ _ _ _
      | exact neonwrightref05_outcomes.mono _ _ _
      | exact LeO.none _
      | refine LeO.ite ?_ ?_
      | refine LeO.bind ?_ (fun _ => ?_)
    · intro y0 y1 y2 y3 y4 y5 y6
      unfold neonwrightref05_sets.l1
      repeat' first
      | (with_reducible exact ih0 _ _ _ _ _ _)
      | (with_reducible exact ih1 _ _ _ _ _ _ _ _ _)
      | (with_reducible exact ih2 _ _ _ _ _ _ _)
      | (with_reducible exact ih3 _ _ _ _ _ _ _)
      | (with_reducible exact neonwrightref05_outcomes.mono _ _ _)
      | (with_reducible exact LeO.refl _)
      | (with_reducible exact LeO.none _)
      | (with_reducible refine LeO.ite ?_ ?_)
      | (with_reducible refine LeO.bind ?_ (fun _ => ?_))
      | exact ih0 _ _ _ _ _ _
      | exact ih1 _ _ _ _ _ _ _ _ _
      | exact ih2 _ _ _ _ _ _ _
      | exact ih3 _ _ _ _ _ _ _
      | exact neonwrightref05_outcomes.mono _ _ _
      | exact LeO.none _
      | refine LeO.ite ?_ ?_
      | refine LeO.bind ?_ (fun _ => ?_)
theorem neonwrightref05_sets.mono : ∀ a0 a1 a2 a3 a4 a5 k, LeO (neonwrightref05_sets.f k a0 a1 a2 a3 a4 a5) (neonwrightref05_sets.f (k + 1) a0 a1 a2 a3 a4 a5) := by
  intro a0 a1 a2 a3 a4 a5 k
  obtain ⟨ih0, ih1, ih2, ih3⟩ := neonwrightref05_sets.mono_l k
  exact ih0 a0 a1 a2 a3 a4 a5
set_option maxHeartbeats 8000000 in
set_option maxRecDepth 100000 in
theorem neonwrightref05_sets.calls (k : Nat) : ∀ (a0 : Int) (A1 : Option Addr) (c1 : Nat) (l1 : List (List Int)) (A2 : Option Addr) (c2 : Nat) (l2 : List Bool) (a3 : Int) (a4 : Int) (P5_ : Nat → Prop) (A5 : Option Addr) (c5 : Nat) (l5 : List Int) (r : List (List Int)) (w : World) (hr1 : Kd.C (Kd.slice 3 (Kd.int .i64)) w A1 l1.length l1) (hc1 : l1.length ≤ c1) (hr2 : Kd.C Kd.bool w A2 l2.length l2) (hc2 : l2.length ≤ c2) (hs5 : Kd.V (Kd.int .i64) 3 w w.heap.size (fun k_ => P5_ k_) (.slice A5 l5.length c5) l5) (h : neonwrightref05_sets.f k a0 l1 l2 a3 a4 l5 = some r),
    Calls Tryd.prog 62 #[.int .i64 a0, .slice A1 l1.length c1, .slice A2 l2.length c2, .int .i64 a3, .int .i64 a4, .slice A5 l5.length c5] w fun e w' => ∃ v0_ : Value, e = .returned (v0_) ∧ Kd.N (Kd.slice 3 (Kd.int .i64)) 25 w' w.heap.size (fun k_ => (P5_ k_ ∨ w.heap.size ≤ k_)) v0_ r ∧ Below w.heap.size w w' := by
  induction k using Nat.strongRecOn with
  | _ k ih =>
  intro a0 A1 c1 l1 A2 c2 l2 a3 a4 P5_ A5 c5 l5 r w hr1 hc1 hr2 hc2 hs5 h
  cases k with
  | zero => exact absurd h (by simp [neonwrightref05_sets.f])
  | succ k =>
  simp only [neonwrightref05_sets.f] at h
  have HR1 := Aside0.mk hr1
  have HC1 := Aside0.mk hc1
  clear hr1 hc1
  have HR2 := Aside0.mk hr2
  have HC2 := Aside0.mk hc2
  clear hr2 hc2
  have HO5 := Aside0.mk (show Kd.V (Kd.int .i64) 3 w w.heap.size (fun k_ => (P5_ k_ ∨ w.heap.size ≤ k_)) (.slice A5 l5.length c5) l5 from Kd.V_mono hs5 (fun k_ hk => .inl hk))
  have HB := Aside0.mk (Below.refl w.heap.size w)
  have H : ((neonwrightref05_outcomes.f k l1 l5).bind fun t397 => (neonwrightref05_sets.l0 k a0 l1 l2 a3 a4 l5 true t397 0)) = some r := h
  clear h
  replace H := Option.bind_eq_some_iff.mp H
  obtain ⟨t397, A70, H⟩ := H
  replace H : (neonwrightref05_sets.l0 k a0 l1 l2 a3 a4 l5 true t397 0) = some r := H
  have A7 := Aside0.mk A70
  clear A70
  have H' := Aside0.mk H
  clear H
  go_enter Tryd.func62, Tryd.ntmps62
  go_wp2_with (first | (go_at_call 56; (with_reducible refine (neonwrightref05_outcomes.calls k _ _ l1 _ _ l5 t397 _ ?side1 ?side2 ?side3 ?side4 A7.out).mono ?_); (case side1 => repeat (first | exact HR1.out | (with_reducible refine Kd.C_alloc ?_ _) | (with_reducible refine Kd.C_drewN ?_ _) | (with_reducible refine Kd.C_drew ?_))); (case side2 => exact HC1.out); (case side3 => repeat (first | exact (Kd.V_reads' HO5.out).2.2 | (with_reducible refine Kd.C_alloc ?_ _) | (with_reducible refine Kd.C_drewN ?_ _) | (with_reducible refine Kd.C_drew ?_))); (case side4 => exact (Kd.V_reads' HO5.out).2.1); rintro e w8 ⟨v398, rfl, ho0, hb⟩; have n0_ := Aside0.mk (Kd.V_elder' (by (with_reducible repeat (first | apply Kd.V_alloc | apply Kd.V_drewN | apply Kd.V_drew)); exact HO5.out) (Kd.R_base ho0) hb); have n1_ := Aside0.mk (Kd.R_lower (Kd.R_newM (M := fun k_ => (w.heap.size ≤ k_)) ho0 (below_size (by repeat (first | (with_reducible first | exact HB.out | apply below_alloc | apply pw_below_drewN | apply below_drew1) | exact HB.out))) (fun k_ h_ => h_)) (below_size (by repeat (first | (with_reducible first | exact HB.out | apply below_alloc | apply pw_below_drewN | apply below_drew1) | exact HB.out)))); have n2_ := Aside0.mk (below_step (by repeat (first | (with_reducible first | exact HB.out | apply below_alloc | apply pw_below_drewN | apply below_drew1) | exact HB.out)) hb); clear HO5; clear HB; have HO5 := n0_; have HO399 := n1_; have HB := n2_; clear n0_ n1_ n2_; (try clear hb); (try clear hb2); (try clear hk); (try clear hi); (try clear ho0)))
  repeat (go_quiet (first | (go_at_call 56; (with_reducible refine (neonwrightref05_outcomes.calls k _ _ l1 _ _ l5 t397 _ ?side1 ?side2 ?side3 ?side4 A7.out).mono ?_); (case side1 => repeat (first | exact HR1.out | (with_reducible refine Kd.C_alloc ?_ _) | (with_reducible refine Kd.C_drewN ?_ _) | (with_reducible refine Kd.C_drew ?_))); (case side2 => exact HC1.out); (case side3 => repeat (first | exact (Kd.V_reads' HO5.out).2.2 | (with_reducible refine Kd.C_alloc ?_ _) | (with_reducible refine Kd.C_drewN ?_ _) | (with_reducible refine Kd.C_drew ?_))); (case side4 => exact (Kd.V_reads' HO5.out).2.1); rintro e w8 ⟨v398, rfl, ho0, hb⟩; have n0_ := Aside0.mk (Kd.V_elder' (by (with_reducible repeat (first | apply Kd.V_alloc | apply Kd.V_drewN | apply Kd.V_drew)); exact HO5.out) (Kd.R_base ho0) hb); have n1_ := Aside0.mk (Kd.R_lower (Kd.R_newM (M := fun k_ => (w.heap.size ≤ k_)) ho0 (below_size (by repeat (first | (with_reducible first | exact HB.out | apply below_alloc | apply pw_below_drewN | apply below_drew1) | exact HB.out))) (fun k_ h_ => h_)) (below_size (by repeat (first | (with_reducible first | exact HB.out | apply below_alloc | apply pw_below_drewN | apply below_drew1) | exact HB.out)))); have n2_ := Aside0.mk (below_step (by repeat (first | (with_reducible first | exact HB.out | apply below_alloc | apply pw_below_drewN | apply below_drew1) | exact HB.out)) hb); clear HO5; clear HB; have HO5 := n0_; have HO399 := n1_; have HB := n2_; clear n0_ n1_ n2_; (try clear hb); (try clear hb2); (try clear hk); (try clear hi); (try clear ho0))); try go_wp2_with (first | (go_at_call 56; (with_reducible refine (neonwrightref05_outcomes.calls k _ _ l1 _ _ l5 t397 _ ?side1 ?side2 ?side3 ?side4 A7.out).mono ?_); (case side1 => repeat (first | exact HR1.out | (with_reducible refine Kd.C_alloc ?_ _) | (with_reducible refine Kd.C_drewN ?_ _) | (with_reducible refine Kd.C_drew ?_))); (case side2 => exact HC1.out); (case side3 => repeat (first | exact (Kd.V_reads' HO5.out).2.2 | (with_reducible refine Kd.C_alloc ?_ _) | (with_reducible refine Kd.C_drewN ?_ _) | (with_reducible refine Kd.C_drew ?_))); (case side4 => exact (Kd.V_reads' HO5.out).2.1); rintro e w8 ⟨v398, rfl, ho0, hb⟩; have n0_ := Aside0.mk (Kd.V_elder' (by (with_reducible repeat (first | apply Kd.V_alloc | apply Kd.V_drewN | apply Kd.V_drew)); exact HO5.out) (Kd.R_base ho0) hb); have n1_ := Aside0.mk (Kd.R_lower (Kd.R_newM (M := fun k_ => (w.heap.size ≤ k_)) ho0 (below_size (by repeat (first | (with_reducible first | exact HB.out | apply below_alloc | apply pw_below_drewN | apply below_drew1) | exact HB.out))) (fun k_ h_ => h_)) (below_size (by repeat (first | (with_reducible first | exact HB.out | apply below_alloc | apply pw_below_drewN | apply below_drew1) | exact HB.out)))); have n2_ := Aside0.mk (below_step (by repeat (first | (with_reducible first | exact HB.out | apply below_alloc | apply pw_below_drewN | apply below_drew1) | exact HB.out)) hb); clear HO5; clear HB; have HO5 := n0_; have HO399 := n1_; have HB := n2_; clear n0_ n1_ n2_; (try clear hb); (try clear hb2); (try clear hk); (try clear hi); (try clear ho0))))
  go_loopg [14, 16] k (fun kq v14 v16 w' => ∃ (x14_1 : Bool) (x16_1 : Int), v14 = .bool x14_1 ∧ v16 = .int .i64 x16_1 ∧ Aside0 (neonwrightref05_sets.l0 kq a0 l1 l2 a3 a4 l5 x14_1 t397 x16_1 = some r) ∧ Aside0 (kq ≤ k) ∧ Aside0 (Kd.V (Kd.int .i64) 3 w' w.heap.size (fun k_ => (P5_ k_ ∨ w.heap.size ≤ k_) ∧ some k_ ≠ (v398 : Value).ownBlock) (.slice A5 l5.length c5) l5) ∧ Aside0 (Kd.R Kd.bool 4 w' w.heap.size (fun k_ => (w.heap.size ≤ k_)) v398 t397) ∧ Aside0 (Below w.heap.size w w'))
  case atStart => exact ⟨(true), (0), (by first | rfl | (simp; done) | (simp [*]; done)), (by first | rfl | (simp; done) | (simp [*]; done)), H', ⟨Nat.le_refl _⟩, ⟨by (with_reducible repeat (first | apply Kd.V_alloc | apply Kd.V_drewN | apply Kd.V_drew)); first | exact HO5.out | exact Kd.R_mono HO5.out (fun k_ h_ => ne_own_len h_)⟩, ⟨by (with_reducible repeat (first | apply Kd.R_alloc | apply Kd.R_drewN | apply Kd.R_drew)); exact Kd.R_mono HO399.out (fun _ hk => hk.1)⟩, ⟨by repeat (first | (with_reducible first | exact HB.out | apply below_alloc | apply pw_below_drewN | apply below_drew1) | exact HB.out)⟩⟩
  case round =>
    clear H'
    try clear c1
    try clear c2
    try clear p2
    try clear c5
    try clear c6
    obtain ⟨x14_1, x16_1, rfl, rfl, HA, HK1, HO_5, HO_15, HB⟩ := hrel
    cases gk with
    | zero => exact absurd HA.out (by simp [neonwrightref05_sets.l0])
    | succ k1 =>
      have H := HA.out
      clear HA
      simp only [neonwrightref05_sets.l0] at H
      by_cases c9 : x16_1 < (t397.length : Int)
      · rw [if_pos c9] at H
        have c9b0 : decide (x16_1 < (t397.length : Int)) = true := decide_eq_true c9
        clear c9
        by_cases c10 : x14_1 = true
        · subst c10
          have H1 : (if 0 ≤ x16_1 then (if x16_1 < (l2.length : Int) then (neonwrightref05_sets.l0 k1 a0 l1 l2 a3 a4 l5 ((rdOf false t397 x16_1) == (rdOf false l2 x16_1)) t397 (wrap64 (x16_1 + 1))) else (none)) else (none)) = some r := by rw [if_pos rfl] at H; exact H
          clear H
          have H := H1
          clear H1
          by_cases c11 : 0 ≤ x16_1
          · rw [if_pos c11] at H
            have c11b0 : decide (0 ≤ x16_1) = true := decide_eq_true c11
            clear c11
            by_cases c12 : x16_1 < (l2.length : Int)
            · rw [if_pos c12] at H
              have c12b0 : decide (x16_1 < (l2.length : Int)) = true := decide_eq_true c12
              clear c12
              have H' := Aside0.mk H
              clear H
              obtain ⟨Ao13, co13, eo13⟩ := Kd.R_slice HO_15.out
              subst eo13
              have p400 : 0 ≤ (x16_1 : Int) := of_decide_eq_true (by first | (with_reducible assumption) | assumption)
              have q400 : x16_1 < (t397.length : Int) := of_decide_eq_true (by first | (with_reducible assumption) | assumption)
              obtain ⟨ad400, e400, hx400_0⟩ := Kd.at_bool (Kd.R_reads' HO_15.out).2.2 x16_1 p400 q400
              cases e400
              replace p400 := eq_true p400
              replace q400 := eq_true q400
              have p401 : 0 ≤ (x16_1 : Int) := of_decide_eq_true (by first | (with_reducible assumption) | assumption)
              have q401 : x16_1 < (l2.length : Int) := of_decide_eq_true (by first | (with_reducible assumption) | assumption)
              obtain ⟨ad401, e401, hx401_0⟩ := Kd.at_bool HR2.out x16_1 p401 q401
              cases e401
              replace hx401_0 := (HB.out.cell (World.block_lt_of_cell? w _ hx401_0)).trans hx401_0
              replace p401 := eq_true p401
              replace q401 := eq_true q401
              go_wp2
              repeat (go_quiet (fail); try go_wp2)
              go_roundg k1
              case measure => have := HK1.out; omega
              case rel => exact ⟨(((rdOf false t397 x16_1) == (rdOf false l2 x16_1))), (wrap64 (x16_1 + 1)), (by first | rfl | (simp; done) | (simp [*]; done)), (by first | rfl | (simp; done) | (simp [*]; done)), H', ⟨by have := HK1.out; omega⟩, ⟨by (with_reducible repeat (first | apply Kd.V_alloc | apply Kd.V_drewN | apply Kd.V_drew)); first | exact HO_5.out | exact Kd.R_mono HO_5.out (fun k_ h_ => ne_own_len h_)⟩, ⟨by (with_reducible repeat (first | apply Kd.R_alloc | apply Kd.R_drewN | apply Kd.R_drew)); first | exact HO_15.out | exact Kd.R_mono HO_15.out (fun k_ h_ => ne_own_len h_)⟩, ⟨by repeat (first | (with_reducible first | exact HB.out | apply below_alloc | apply pw_below_drewN | apply below_drew1) | exact HB.out)⟩⟩
            · rw [if_neg c12] at H
              exact absurd H (by simp)
          · rw [if_neg c11] at H
            exact absurd H (by simp)
        · replace c10 := Bool.eq_false_iff.mpr c10
          subst c10
          have H1 : (neonwrightref05_sets.l0 k1 a0 l1 l2 a3 a4 l5 false t397 (wrap64 (x16_1 + 1))) = some r := by rw [if_neg (show ¬ (false = true) by decide)] at H; exact H
          clear H
          have H := H1
          clear H1
          have H' := Aside0.mk H
          clear H
          obtain ⟨Ao14, co14, eo14⟩ := Kd.R_slice HO_15.out
          subst eo14
          go_wp2
          repeat (go_quiet (fail); try go_wp2)
          go_roundg k1
          case measure => have := HK1.out; omega
          case rel => exact ⟨(false), (wrap64 (x16_1 + 1)), (by first | rfl | (simp; done) | (simp [*]; done)), (by first | rfl | (simp; done) | (simp [*]; done)), H', ⟨by have := HK1.out; omega⟩, ⟨by (with_reducible repeat (first | apply Kd.V_alloc | apply Kd.V_drewN | apply Kd.V_drew)); first | exact HO_5.out | exact Kd.R_mono HO_5.out (fun k_ h_ => ne_own_len h_)⟩, ⟨by (with_reducible repeat (first | apply Kd.R_alloc | apply Kd.R_drewN | apply Kd.R_drew)); first | exact HO_15.out | exact Kd.R_mono HO_15.out (fun k_ h_ => ne_own_len h_)⟩, ⟨by repeat (first | (with_reducible first | exact HB.out | apply below_alloc | apply pw_below_drewN | apply below_drew1) | exact HB.out)⟩⟩
      · rw [if_neg c9] at H
        have c9b0 : decide (x16_1 < (t397.length : Int)) = false := decide_eq_false c9
        clear c9
        have HC15 := Aside0.mk H
        clear H
        obtain ⟨Ao16, co16, eo16⟩ := Kd.R_slice HO_15.out
        subst eo16
        go_upto_if 40 with (fail)
        repeat (go_quiet (fail); go_upto_if 40 with (fail))
        go_cut [13] (fun v13 wc => ∃ (kq : Nat) (x13_14 : List (List Int)), Aside0 (neonwrightref05_sets.j1 kq a0 l1 l2 a3 a4 l5 x13_14 = some r) ∧ Aside0 (kq ≤ k1) ∧ Aside0 (Kd.V (Kd.int .i64) 3 wc w.heap.size (fun k_ => (P5_ k_ ∨ w.heap.size ≤ k_) ∧ some k_ ≠ (v13 : Value).ownBlock) (.slice A5 l5.length c5) l5) ∧ Aside0 (Kd.N (Kd.slice 3 (Kd.int .i64)) 25 wc w.heap.size (fun k_ => (P5_ k_ ∨ w.heap.size ≤ k_)) v13 x13_14) ∧ Aside0 (Below w.heap.size w wc))
        case first =>
          have H := HC15.out
          clear HC15
          by_cases c17 : x14_1 = true
          · subst c17
            have H1 : (if ([] : List (List Int)).length < 5864062014805 then (neonwrightref05_sets.j1 k1 a0 l1 l2 a3 a4 l5 (([] : List (List Int)) ++ [l5])) else (none)) = some r := by rw [if_pos rfl] at H; exact H
            clear H
            have H := H1
            clear H1
            by_cases c18 : ([] : List (List Int)).length < 5864062014805
            · rw [if_pos c18] at H
              have LMc18 := Aside0.mk c18
              clear c18
              obtain ⟨y402, hy402⟩ : ∃ y_ : List (List Int), y_ = (([] : List (List Int)) ++ [l5]) := ⟨_, rfl⟩
              replace H : (neonwrightref05_sets.j1 k1 a0 l1 l2 a3 a4 l5 y402) = some r := by first | (rw [hy402]; with_reducible exact H) | (have H2_ := (Option.bind_some _ _).symm.trans H; rw [hy402]; with_reducible exact H2_) | (have H2_ := (Option.bind_some _ _).symm.trans H; with_reducible exact H2_) | with_reducible exact H | (rw [hy402]; exact H) | exact H
              have Ny402 := Aside0.mk hy402
              clear hy402
              have H' := Aside0.mk H
              clear H
              go_wp2_with (first | ((with_reducible refine gate_builtin (b := .append) (xs := #[.tmp 41, .tmp 43]) rfl ?_); at_builtin; refine Kd.N_append (Kd.slice 3 (Kd.int .i64)) (w0 := w) w.heap.size rfl (.tmp 41) (.tmp 43) 22 25 (.slice none 0 0) 24 rfl Tryd.underlying22 info25 rfl (by decide) (by omega) (.slice none 0 0) ([] : List (List Int)) l5 [.slice A5 l5.length c5] (fun k_ => (P5_ k_ ∨ w.heap.size ≤ k_) ∧ some k_ ≠ (.slice Ao16 t397.length co16 : Value).ownBlock) (fun k_ => ((fun k_ => (P5_ k_ ∨ w.heap.size ≤ k_) ∧ some k_ ≠ (.slice Ao16 t397.length co16 : Value).ownBlock)) k_ ∧ some k_ ≠ (.slice none 0 0 : Value).ownBlock) rfl rfl ?aP (fun _ hk => hk) ?aF ?aO ?aB ?aS ?aL ?_; (case aP => exact (Kd.FK_slice_mk (Kd.V_reads' (Kd.V_mono (ok' := (fun k_ => ((fun k_ => (P5_ k_ ∨ w.heap.size ≤ k_) ∧ some k_ ≠ (.slice Ao16 t397.length co16 : Value).ownBlock)) k_ ∧ some k_ ≠ (.slice none 0 0 : Value).ownBlock)) (HO_5.out) (fun k_ hk => ⟨⟨hk.1, hk.2⟩, (by simp [Value.ownBlock])⟩))).2.1 (Kd.V_F (Kd.V_mono (ok' := (fun k_ => ((fun k_ => (P5_ k_ ∨ w.heap.size ≤ k_) ∧ some k_ ≠ (.slice Ao16 t397.length co16 : Value).ownBlock)) k_ ∧ some k_ ≠ (.slice none 0 0 : Value).ownBlock)) (HO_5.out) (fun k_ hk => ⟨⟨hk.1, hk.2⟩, (by simp [Value.ownBlock])⟩))))); (case aB => exact (by repeat (first | (with_reducible first | exact HB.out | apply below_alloc | apply pw_below_drewN | apply below_drew1) | exact HB.out))); (case aF => exact (fun k_ hk => ⟨(.inr (Nat.le_trans (below_size (by repeat (first | (with_reducible first | exact HB.out | apply below_alloc | apply pw_below_drewN | apply below_drew1) | exact HB.out))) hk)), Kd.fresh' (Kd.R_lt (by (with_reducible repeat (first | apply Kd.R_alloc | apply Kd.R_drewN | apply Kd.R_drew)); exact HO_15.out)) k_ hk⟩)); (case aO => exact ((Kd.N_nil _ _ _ _ (fun k_ => (P5_ k_ ∨ w.heap.size ≤ k_) ∧ some k_ ≠ (.slice Ao16 t397.length co16 : Value).ownBlock)))); (case aS => exact (below_size (by repeat (first | (with_reducible first | exact HB.out | apply below_alloc | apply pw_below_drewN | apply below_drew1) | exact HB.out)))); (case aL => have := LMc18.out; omega); intro v403 w19 ho hb hg hat; rw [← Ny402.out] at ho; have n0_ := Aside0.mk (Kd.V_afterv (Kd.V_apart_nil (by (with_reducible repeat (first | apply Kd.V_alloc | apply Kd.V_drewN | apply Kd.V_drew)); exact HO_5.out)) hg hat); have n1_ := Aside0.mk (Kd.R_grown (by (with_reducible repeat (first | apply Kd.R_alloc | apply Kd.R_drewN | apply Kd.R_drew)); exact HO_15.out) hg (fun _ _ => by simp [Value.ownBlock])); have n2_ := Aside0.mk (hb); have n3_ := Aside0.mk (ho); clear HO_5; clear HO_15; clear HB; have HO_5 := n0_; have HO_15 := n1_; have HB := n2_; have HO404 := n3_; clear n0_ n1_ n2_ n3_; clear ho hb hg hat))
              repeat (go_quiet (first | ((with_reducible refine gate_builtin (b := .append) (xs := #[.tmp 41, .tmp 43]) rfl ?_); at_builtin; refine Kd.N_append (Kd.slice 3 (Kd.int .i64)) (w0 := w) w.heap.size rfl (.tmp 41) (.tmp 43) 22 25 (.slice none 0 0) 24 rfl Tryd.underlying22 info25 rfl (by decide) (by omega) (.slice none 0 0) ([] : List (List Int)) l5 [.slice A5 l5.length c5] (fun k_ => (P5_ k_ ∨ w.heap.size ≤ k_) ∧ some k_ ≠ (.slice Ao16 t397.length co16 : Value).ownBlock) (fun k_ => ((fun k_ => (P5_ k_ ∨ w.heap.size ≤ k_) ∧ some k_ ≠ (.slice Ao16 t397.length co16 : Value).ownBlock)) k_ ∧ some k_ ≠ (.slice none 0 0 : Value).ownBlock) rfl rfl ?aP (fun _ hk => hk) ?aF ?aO ?aB ?aS ?aL ?_; (case aP => exact (Kd.FK_slice_mk (Kd.V_reads' (Kd.V_mono (ok' := (fun k_ => ((fun k_ => (P5_ k_ ∨ w.heap.size ≤ k_) ∧ some k_ ≠ (.slice Ao16 t397.length co16 : Value).ownBlock)) k_ ∧ some k_ ≠ (.slice none 0 0 : Value).ownBlock)) (HO_5.out) (fun k_ hk => ⟨⟨hk.1, hk.2⟩, (by simp [Value.ownBlock])⟩))).2.1 (Kd.V_F (Kd.V_mono (ok' := (fun k_ => ((fun k_ => (P5_ k_ ∨ w.heap.size ≤ k_) ∧ some k_ ≠ (.slice Ao16 t397.length co16 : Value).ownBlock)) k_ ∧ some k_ ≠ (.slice none 0 0 : Value).ownBlock)) (HO_5.out) (fun k_ hk => ⟨⟨hk.1, hk.2⟩, (by simp [Value.ownBlock])⟩))))); (case aB => exact (by repeat (first | (with_reducible first | exact HB.out | apply below_alloc | apply pw_below_drewN | apply below_drew1) | exact HB.out))); (case aF => exact (fun k_ hk => ⟨(.inr (Nat.le_trans (below_size (by repeat (first | (with_reducible first | exact HB.out | apply below_alloc | apply pw_below_drewN | apply below_drew1) | exact HB.out))) hk)), Kd.fresh' (Kd.R_lt (by (with_reducible repeat (first | apply Kd.R_alloc | apply Kd.R_drewN | apply Kd.R_drew)); exact HO_15.out)) k_ hk⟩)); (case aO => exact ((Kd.N_nil _ _ _ _ (fun k_ => (P5_ k_ ∨ w.heap.size ≤ k_) ∧ some k_ ≠ (.slice Ao16 t397.length co16 : Value).ownBlock)))); (case aS => exact (below_size (by repeat (first | (with_reducible first | exact HB.out | apply below_alloc | apply pw_below_drewN | apply below_drew1) | exact HB.out)))); (case aL => have := LMc18.out; omega); intro v403 w19 ho hb hg hat; rw [← Ny402.out] at ho; have n0_ := Aside0.mk (Kd.V_afterv (Kd.V_apart_nil (by (with_reducible repeat (first | apply Kd.V_alloc | apply Kd.V_drewN | apply Kd.V_drew)); exact HO_5.out)) hg hat); have n1_ := Aside0.mk (Kd.R_grown (by (with_reducible repeat (first | apply Kd.R_alloc | apply Kd.R_drewN | apply Kd.R_drew)); exact HO_15.out) hg (fun _ _ => by simp [Value.ownBlock])); have n2_ := Aside0.mk (hb); have n3_ := Aside0.mk (ho); clear HO_5; clear HO_15; clear HB; have HO_5 := n0_; have HO_15 := n1_; have HB := n2_; have HO404 := n3_; clear n0_ n1_ n2_ n3_; clear ho hb hg hat)); try go_wp2_with (first | ((with_reducible refine gate_builtin (b := .append) (xs := #[.tmp 41, .tmp 43]) rfl ?_); at_builtin; refine Kd.N_append (Kd.slice 3 (Kd.int .i64)) (w0 := w) w.heap.size rfl (.tmp 41) (.tmp 43) 22 25 (.slice none 0 0) 24 rfl Tryd.underlying22 info25 rfl (by decide) (by omega) (.slice none 0 0) ([] : List (List Int)) l5 [.slice A5 l5.length c5] (fun k_ => (P5_ k_ ∨ w.heap.size ≤ k_) ∧ some k_ ≠ (.slice Ao16 t397.length co16 : Value).ownBlock) (fun k_ => ((fun k_ => (P5_ k_ ∨ w.heap.size ≤ k_) ∧ some k_ ≠ (.slice Ao16 t397.length co16 : Value).ownBlock)) k_ ∧ some k_ ≠ (.slice none 0 0 : Value).ownBlock) rfl rfl ?aP (fun _ hk => hk) ?aF ?aO ?aB ?aS ?aL ?_; (case aP => exact (Kd.FK_slice_mk (Kd.V_reads' (Kd.V_mono (ok' := (fun k_ => ((fun k_ => (P5_ k_ ∨ w.heap.size ≤ k_) ∧ some k_ ≠ (.slice Ao16 t397.length co16 : Value).ownBlock)) k_ ∧ some k_ ≠ (.slice none 0 0 : Value).ownBlock)) (HO_5.out) (fun k_ hk => ⟨⟨hk.1, hk.2⟩, (by simp [Value.ownBlock])⟩))).2.1 (Kd.V_F (Kd.V_mono (ok' := (fun k_ => ((fun k_ => (P5_ k_ ∨ w.heap.size ≤ k_) ∧ some k_ ≠ (.slice Ao16 t397.length co16 : Value).ownBlock)) k_ ∧ some k_ ≠ (.slice none 0 0 : Value).ownBlock)) (HO_5.out) (fun k_ hk => ⟨⟨hk.1, hk.2⟩, (by simp [Value.ownBlock])⟩))))); (case aB => exact (by repeat (first | (with_reducible first | exact HB.out | apply below_alloc | apply pw_below_drewN | apply below_drew1) | exact HB.out))); (case aF => exact (fun k_ hk => ⟨(.inr (Nat.le_trans (below_size (by repeat (first | (with_reducible first | exact HB.out | apply below_alloc | apply pw_below_drewN | apply below_drew1) | exact HB.out))) hk)), Kd.fresh' (Kd.R_lt (by (with_reducible repeat (first | apply Kd.R_alloc | apply Kd.R_drewN | apply Kd.R_drew)); exact HO_15.out)) k_ hk⟩)); (case aO => exact ((Kd.N_nil _ _ _ _ (fun k_ => (P5_ k_ ∨ w.heap.size ≤ k_) ∧ some k_ ≠ (.slice Ao16 t397.length co16 : Value).ownBlock)))); (case aS => exact (below_size (by repeat (first | (with_reducible first | exact HB.out | apply below_alloc | apply pw_below_drewN | apply below_drew1) | exact HB.out)))); (case aL => have := LMc18.out; omega); intro v403 w19 ho hb hg hat; rw [← Ny402.out] at ho; have n0_ := Aside0.mk (Kd.V_afterv (Kd.V_apart_nil (by (with_reducible repeat (first | apply Kd.V_alloc | apply Kd.V_drewN | apply Kd.V_drew)); exact HO_5.out)) hg hat); have n1_ := Aside0.mk (Kd.R_grown (by (with_reducible repeat (first | apply Kd.R_alloc | apply Kd.R_drewN | apply Kd.R_drew)); exact HO_15.out) hg (fun _ _ => by simp [Value.ownBlock])); have n2_ := Aside0.mk (hb); have n3_ := Aside0.mk (ho); clear HO_5; clear HO_15; clear HB; have HO_5 := n0_; have HO_15 := n1_; have HB := n2_; have HO404 := n3_; clear n0_ n1_ n2_ n3_; clear ho hb hg hat)))
              go_meet
              case rel => exact ⟨_, (y402), H', ⟨by have := HK1.out; first | omega | exact Nat.le_refl _⟩, ⟨by (with_reducible repeat (first | apply Kd.V_alloc | apply Kd.V_drewN | apply Kd.V_drew)); exact Kd.V_mono HO_5.out (fun _ hk => ⟨hk.1.1, hk.2⟩)⟩, ⟨by (with_reducible repeat (first | apply Kd.N_alloc | apply Kd.N_drewN | apply Kd.N_drew)); exact Kd.N_mono HO404.out (fun _ hk => hk.1)⟩, ⟨by repeat (first | (with_reducible first | exact HB.out | apply below_alloc | apply pw_below_drewN | apply below_drew1) | exact HB.out)⟩⟩
            · rw [if_neg c18] at H
              exact absurd H (by simp)
          · replace c17 := Bool.eq_false_iff.mpr c17
            subst c17
            have H1 : (neonwrightref05_sets.j1 k1 a0 l1 l2 a3 a4 l5 ([] : List (List Int))) = some r := by rw [if_neg (show ¬ (false = true) by decide)] at H; exact H
            clear H
            have H := H1
            clear H1
            have H' := Aside0.mk H
            clear H
            go_wp2
            repeat (go_quiet (fail); try go_wp2)
            go_meet
            case rel => exact ⟨_, (([] : List (List Int))), H', ⟨by have := HK1.out; first | omega | exact Nat.le_refl _⟩, ⟨by (with_reducible repeat (first | apply Kd.V_alloc | apply Kd.V_drewN | apply Kd.V_drew)); exact Kd.V_mono HO_5.out (fun _ hk => ⟨hk.1, (by simp [Value.ownBlock])⟩)⟩, ⟨by first | exact Kd.S_nil _ _ _ _ _ | exact Kd.N_nil _ _ _ _ _ | exact Kd.V_nil _ _ _ _ _ | exact Kd.Q_nil _ _ _ _ _ | exact Kd.R_nil _ _ _ _ _⟩, ⟨by repeat (first | (with_reducible first | exact HB.out | apply below_alloc | apply pw_below_drewN | apply below_drew1) | exact HB.out)⟩⟩
        case rest =>
          clear HC15
          try clear c1
          try clear c2
          try clear p2
          try clear p4
          try clear q4
          try clear hx4
          try clear c5
          try clear c6
          try clear p6
          try clear c9
          try clear c9b0
          try clear c10
          try clear c11
          try clear c11b0
          try clear c12
          try clear c12b0
          try clear c17
          try clear c18
          try clear hx400_0
          try clear hx401_0
          try clear p2
          try clear p400
          try clear p401
          try clear q400
          try clear q401
          obtain ⟨kq, x13_14, HA, HJ14, HO_5, HO_13, HB⟩ := hcut
          cases kq with
          | zero => exact absurd HA.out (by simp [neonwrightref05_sets.j1])
          | succ kj14 =>
            have H := HA.out
            clear HA
            simp only [neonwrightref05_sets.j1] at H
            have H' := Aside0.mk H
            clear H
            go_wp2
            repeat (go_quiet (fail); try go_wp2)
            go_loopg [13, 17] kj14 (fun kq v13 v17 w' => ∃ (x13_3 : List (List Int)) (x17_3 : Int), v17 = .int .i64 x17_3 ∧ Aside0 (neonwrightref05_sets.l1 kq a0 l1 l2 a3 l5 x13_3 x17_3 = some r) ∧ Aside0 (kq ≤ kj14) ∧ Aside0 (Kd.V (Kd.int .i64) 3 w' w.heap.size (fun k_ => (P5_ k_ ∨ w.heap.size ≤ k_) ∧ some k_ ≠ (v13 : Value).ownBlock) (.slice A5 l5.length c5) l5) ∧ Aside0 (Kd.N (Kd.slice 3 (Kd.int .i64)) 25 w' w.heap.size (fun k_ => (P5_ k_ ∨ w.heap.size ≤ k_)) v13 x13_3) ∧ Aside0 (Below w.heap.size w w'))
            case atStart => exact ⟨(x13_14), (a4), (by first | rfl | (simp; done) | (simp [*]; done)), H', ⟨Nat.le_refl _⟩, ⟨by (with_reducible repeat (first | apply Kd.V_alloc | apply Kd.V_drewN | apply Kd.V_drew)); first | exact HO_5.out | exact Kd.R_mono HO_5.out (fun k_ h_ => ne_own_len h_)⟩, ⟨by (with_reducible repeat (first | apply Kd.N_alloc | apply Kd.N_drewN | apply Kd.N_drew)); first | exact HO_13.out | exact Kd.R_mono HO_13.out (fun k_ h_ => ne_own_len h_)⟩, ⟨by repeat (first | (with_reducible first | exact HB.out | apply below_alloc | apply pw_below_drewN | apply below_drew1) | exact HB.out)⟩⟩
            case round =>
              clear H'
              try clear c1
              try clear c2
              try clear p2
              try clear p4
              try clear q4
              try clear hx4
              try clear c5
              try clear c6
              try clear p6
              try clear c9
              try clear c9b0
              try clear c10
              try clear c11
              try clear c11b0
              try clear c12
              try clear c12b0
              try clear c17
              try clear c18
              try clear hx400_0
              try clear hx401_0
              try clear p2
              try clear p4
              try clear p400
              try clear p401
              try clear p6
              try clear q4
              try clear q400
              try clear q401
              obtain ⟨x13_3, x17_3, rfl, HA, HK3, HO_5, HO_13, HB⟩ := hrel
              cases gk with
              | zero => exact absurd HA.out (by simp [neonwrightref05_sets.l1])
              | succ k3 =>
                have H := HA.out
                clear HA
                simp only [neonwrightref05_sets.l1] at H
                by_cases c20 : x17_3 < a0
                · rw [if_pos c20] at H
                  have c20b0 : decide (x17_3 < a0) = true := decide_eq_true c20
                  clear c20
                  by_cases c21 : a3 > 0
                  · rw [if_pos c21] at H
                    have c21b0 : decide (0 < a3) = true := decide_eq_true c21
                    clear c21
                    by_cases c22 : ([] : List Int).length + l5.length < 17592186044416
                    · rw [if_pos c22] at H
                      have LMc22 := Aside0.mk c22
                      clear c22
                      obtain ⟨y405, hy405⟩ : ∃ y_ : List Int, y_ = (([] : List Int) ++ l5) := ⟨_, rfl⟩
                      replace H : (if y405.length < 17592186044416 then ((neonwrightref05_sets.f k3 a0 l1 l2 (wrap64 (a3 - 1)) (wrap64 (x17_3 + 1)) (y405 ++ [x17_3])).bind fun t411 => (if x13_3.length + t411.length < 5864062014805 then (neonwrightref05_sets.l1 k3 a0 l1 l2 a3 l5 (x13_3 ++ t411) (wrap64 (x17_3 + 1))) else (none))) else (none)) = some r := by first | (rw [hy405]; with_reducible exact H) | (have H2_ := (Option.bind_some _ _).symm.trans H; rw [hy405]; with_reducible exact H2_) | (have H2_ := (Option.bind_some _ _).symm.trans H; with_reducible exact H2_) | with_reducible exact H | (rw [hy405]; exact H) | exact H
                      have Ny405 := Aside0.mk hy405
                      clear hy405
                      by_cases c23 : y405.length < 17592186044416
                      · rw [if_pos c23] at H
                        have LMc23 := Aside0.mk c23
                        clear c23
                        obtain ⟨y408, hy408⟩ : ∃ y_ : List Int, y_ = (y405 ++ [x17_3]) := ⟨_, rfl⟩
                        replace H : ((neonwrightref05_sets.f k3 a0 l1 l2 (wrap64 (a3 - 1)) (wrap64 (x17_3 + 1)) y408).bind fun t411 => (if x13_3.length + t411.length < 5864062014805 then (neonwrightref05_sets.l1 k3 a0 l1 l2 a3 l5 (x13_3 ++ t411) (wrap64 (x17_3 + 1))) else (none))) = some r := by first | (rw [hy408]; with_reducible exact H) | (have H2_ := (Option.bind_some _ _).symm.trans H; rw [hy408]; with_reducible exact H2_) | (have H2_ := (Option.bind_some _ _).symm.trans H; with_reducible exact H2_) | with_reducible exact H | (rw [hy408]; exact H) | exact H
                        have Ny408 := Aside0.mk hy408
                        clear hy408
                        replace H := Option.bind_eq_some_iff.mp H
                        obtain ⟨t411, A240, H⟩ := H
                        replace H : (if x13_3.length + t411.length < 5864062014805 then (neonwrightref05_sets.l1 k3 a0 l1 l2 a3 l5 (x13_3 ++ t411) (wrap64 (x17_3 + 1))) else (none)) = some r := H
                        have A24 := Aside0.mk A240
                        clear A240
                        by_cases c25 : x13_3.length + t411.length < 5864062014805
                        · rw [if_pos c25] at H
                          have LMc25 := Aside0.mk c25
                          clear c25
                          obtain ⟨y414, hy414⟩ : ∃ y_ : List (List Int), y_ = (x13_3 ++ t411) := ⟨_, rfl⟩
                          replace H : (neonwrightref05_sets.l1 k3 a0 l1 l2 a3 l5 y414 (wrap64 (x17_3 + 1))) = some r := by first | (rw [hy414]; with_reducible exact H) | (have H2_ := (Option.bind_some _ _).symm.trans H; rw [hy414]; with_reducible exact H2_) | (have H2_ := (Option.bind_some _ _).symm.trans H; with_reducible exact H2_) | with_reducible exact H | (rw [hy414]; exact H) | exact H
                          have Ny414 := Aside0.mk hy414
                          clear hy414
                          have H' := Aside0.mk H
                          clear H
                          go_wp2_with (first | ((with_reducible refine gate_builtin (b := .append) (xs := #[.tmp 55, .tmp 56]) rfl ?_); at_builtin; refine Kd.R_append_rows (Kd.int .i64) (w0 := w) w.heap.size rfl (.tmp 55) (.tmp 56) 25 3 (.int .i64 0) 8 rfl Tryd.underlying25 info3 rfl (by decide) (by omega) (.slice none 0 0) ([] : List Int) l5 _ _ _ (fun k_ => (w.heap.size ≤ k_)) (fun _ => False) rfl rfl ?aO ?aR (fun _ _ h => h) (fun _ h => h.elim) ?aF ?aB ?aS ?aL ?_; (case aR => repeat (first | exact (Kd.V_reads' HO_5.out).2.2 | (with_reducible refine Kd.C_alloc ?_ _) | (with_reducible refine Kd.C_drewN ?_ _) | (with_reducible refine Kd.C_drew ?_))); (case aB => exact (by repeat (first | (with_reducible first | exact HB.out | apply below_alloc | apply pw_below_drewN | apply below_drew1) | exact HB.out))); (case aF => exact (fun k_ hk => (Nat.le_trans (below_size (by repeat (first | (with_reducible first | exact HB.out | apply below_alloc | apply pw_below_drewN | apply below_drew1) | exact HB.out))) hk))); (case aO => exact ((Kd.R_nil _ _ _ _ (fun k_ => (w.heap.size ≤ k_))))); (case aS => exact (below_size (by repeat (first | (with_reducible first | exact HB.out | apply below_alloc | apply pw_below_drewN | apply below_drew1) | exact HB.out)))); (case aL => have := LMc22.out; omega); intro v406 w26 ho hb hg hat; rw [← Ny405.out] at ho; have n0_ := Aside0.mk (Kd.V_afterv (Kd.V_apart_nil (by (with_reducible repeat (first | apply Kd.V_alloc | apply Kd.V_drewN | apply Kd.V_drew)); exact HO_5.out)) hg hat); have n1_ := Aside0.mk (Kd.N_afterv (Kd.N_apart_nil (by (with_reducible repeat (first | apply Kd.N_alloc | apply Kd.N_drewN | apply Kd.N_drew)); exact HO_13.out)) hg hat); have n2_ := Aside0.mk (hb); have n3_ := Aside0.mk (ho); clear HO_5; clear HO_13; clear HB; have HO_5 := n0_; have HO_13 := n1_; have HB := n2_; have HO407 := n3_; clear n0_ n1_ n2_ n3_; clear ho hb hg hat) | ((with_reducible refine gate_builtin (b := .append) (xs := #[.tmp 66, .tmp 68]) rfl ?_); at_builtin; refine Kd.R_append (Kd.int .i64) (w0 := w) w.heap.size rfl (.tmp 66) (.tmp 68) 25 3 (.int .i64 0) 8 rfl Tryd.underlying25 info3 rfl (by decide) (by omega) v406 y405 x17_3 [.int .i64 x17_3] (fun k_ => (w.heap.size ≤ k_)) (fun _ => False) rfl rfl ?aP (fun _ hk => hk.elim) ?aF ?aO ?aB ?aS ?aL ?_; (case aP => exact rfl); (case aB => exact (by repeat (first | (with_reducible first | exact HB.out | apply below_alloc | apply pw_below_drewN | apply below_drew1) | exact HB.out))); (case aF => exact (fun k_ hk => (Nat.le_trans (below_size (by repeat (first | (with_reducible first | exact HB.out | apply below_alloc | apply pw_below_drewN | apply below_drew1) | exact HB.out))) hk))); (case aO => exact (by (with_reducible repeat (first | apply Kd.R_alloc | apply Kd.R_drewN | apply Kd.R_drew)); exact HO407.out)); (case aS => exact (below_size (by repeat (first | (with_reducible first | exact HB.out | apply below_alloc | apply pw_below_drewN | apply below_drew1) | exact HB.out)))); (case aL => have := LMc23.out; omega); intro v409 w27 ho hb hg hat; rw [← Ny408.out] at ho; have n0_ := Aside0.mk (Kd.V_afterv (ok := (fun k_ => (P5_ k_ ∨ w.heap.size ≤ k_) ∧ some k_ ≠ (u13 : Value).ownBlock)) (by (with_reducible repeat (first | apply Kd.V_alloc | apply Kd.V_drewN | apply Kd.V_drew)); exact HO_5.out) hg hat); have n1_ := Aside0.mk (Kd.N_afterv (ok := (fun k_ => (P5_ k_ ∨ w.heap.size ≤ k_))) (by (with_reducible repeat (first | apply Kd.N_alloc | apply Kd.N_drewN | apply Kd.N_drew)); exact HO_13.out) hg hat); have n2_ := Aside0.mk (hb); have n3_ := Aside0.mk (ho); clear HO_5; clear HO_13; clear HB; clear HO407; have HO_5 := n0_; have HO_13 := n1_; have HB := n2_; have HO410 := n3_; clear n0_ n1_ n2_ n3_; clear ho hb hg hat; obtain ⟨Ao28, co28, eo28⟩ := Kd.R_slice HO410.out; subst eo28) | (go_at_call 62; (with_reducible refine (ih k3 (by have := HK1.out; have := HJ14.out; have := HK3.out; omega) a0 _ _ l1 _ _ l2 (wrap64 (a3 - 1)) (wrap64 (x17_3 + 1)) (fun k_ => some k_ = (.slice Ao28 y408.length co28 : Value).ownBlock) _ _ y408 t411 _ ?side1 ?side2 ?side3 ?side4 ?side5 A24.out).mono ?_); (case side1 => repeat (first | exact (Kd.C_below HR1.out HB.out) | (with_reducible refine Kd.C_alloc ?_ _) | (with_reducible refine Kd.C_drewN ?_ _) | (with_reducible refine Kd.C_drew ?_))); (case side2 => exact HC1.out); (case side3 => repeat (first | exact (Kd.C_below HR2.out HB.out) | (with_reducible refine Kd.C_alloc ?_ _) | (with_reducible refine Kd.C_drewN ?_ _) | (with_reducible refine Kd.C_drew ?_))); (case side4 => exact HC2.out); (case side5 => exact Kd.R_V (Kd.R_tight rfl (Kd.R_apart' (HO410.out) (Kd.N_typed HO_13.out) (by decide)))); rintro e w29 ⟨v412, rfl, ho0, hb⟩; have n0_ := Aside0.mk (Kd.V_elder' (by (with_reducible repeat (first | apply Kd.V_alloc | apply Kd.V_drewN | apply Kd.V_drew)); exact HO_5.out) (Kd.N_base ho0) hb); have n1_ := Aside0.mk (Kd.N_elder' (by (with_reducible repeat (first | apply Kd.N_alloc | apply Kd.N_drewN | apply Kd.N_drew)); exact HO_13.out) (Kd.N_base ho0) hb); have n2_ := Aside0.mk (Kd.R_below (by (with_reducible repeat (first | apply Kd.R_alloc | apply Kd.R_drewN | apply Kd.R_drew)); exact HO410.out) hb); have n3_ := Aside0.mk (Kd.N_lower (Kd.N_mono (ok' := fun k_ => (P5_ k_ ∨ w.heap.size ≤ k_) ∧ some k_ ≠ (u13 : Value).ownBlock) ho0 (fun k_ hk_ => ⟨Or.elim hk_ (fun hs_ => (.inr (((Kd.R_apart' (HO410.out) (Kd.N_typed HO_13.out) (by decide)).1 k_ hs_.symm).1))) (fun hn_ => (.inr (Nat.le_trans (below_size (by repeat (first | (with_reducible first | exact HB.out | apply below_alloc | apply pw_below_drewN | apply below_drew1) | exact HB.out))) hn_))), Or.elim hk_ (fun hs_ => ((Kd.R_apart' (HO410.out) (Kd.N_typed HO_13.out) (by decide)).1 k_ hs_.symm).2) (fun hn_ => (Kd.fresh' (Kd.N_lt (by (with_reducible repeat (first | apply Kd.N_alloc | apply Kd.N_drewN | apply Kd.N_drew)); exact HO_13.out)) k_ hn_))⟩)) (below_size (by repeat (first | (with_reducible first | exact HB.out | apply below_alloc | apply pw_below_drewN | apply below_drew1) | exact HB.out)))); have n4_ := Aside0.mk (below_step (by repeat (first | (with_reducible first | exact HB.out | apply below_alloc | apply pw_below_drewN | apply below_drew1) | exact HB.out)) hb); clear HO_5; clear HO_13; clear HO410; clear HB; have HO_5 := n0_; have HO_13 := n1_; have HO410 := n2_; have HO413 := n3_; have HB := n4_; clear n0_ n1_ n2_ n3_ n4_; (try clear hb); (try clear hb2); (try clear hk); (try clear hi); (try clear ho0); obtain ⟨Ao31, co31, eo31⟩ := Kd.N_slice HO413.out; subst eo31) | ((with_reducible refine gate_builtin (b := .append) (xs := #[.tmp 58, .tmp 70]) rfl ?_); at_builtin; refine Kd.N_append_rows (Kd.slice 3 (Kd.int .i64)) (w0 := w) w.heap.size rfl (.tmp 58) (.tmp 70) 22 25 (.slice none 0 0) 24 rfl Tryd.underlying22 info25 rfl (by decide) (by omega) u13 x13_3 t411 _ _ _ (fun k_ => (P5_ k_ ∨ w.heap.size ≤ k_)) (fun k_ => ((fun k_ => (P5_ k_ ∨ w.heap.size ≤ k_))) k_ ∧ some k_ ≠ (u13 : Value).ownBlock) rfl rfl ?aO ?aR (fun _ hk => hk) ?aF ?aB ?aS ?aL ?_; (case aR => exact (by skip; exact Kd.N_F (Kd.N_mono (ok' := (fun k_ => ((fun k_ => (P5_ k_ ∨ w.heap.size ≤ k_))) k_ ∧ some k_ ≠ (u13 : Value).ownBlock)) (HO413.out) (fun k_ hk => ⟨hk.1, hk.2⟩)))); (case aB => exact (by repeat (first | (with_reducible first | exact HB.out | apply below_alloc | apply pw_below_drewN | apply below_drew1) | exact HB.out))); (case aF => exact (fun k_ hk => (.inr (Nat.le_trans (below_size (by repeat (first | (with_reducible first | exact HB.out | apply below_alloc | apply pw_below_drewN | apply below_drew1) | exact HB.out))) hk)))); (case aO => exact (by (with_reducible repeat (first | apply Kd.N_alloc | apply Kd.N_drewN | apply Kd.N_drew)); exact Kd.N_mono HO_13.out (fun _ hk => hk.1.1))); (case aS => exact (below_size (by repeat (first | (with_reducible first | exact HB.out | apply below_alloc | apply pw_below_drewN | apply below_drew1) | exact HB.out)))); (case aL => have := LMc25.out; omega); intro v415 w30 ho hb hg hat; rw [← Ny414.out] at ho; have n0_ := Aside0.mk (Kd.V_afterv (ok := (fun k_ => (P5_ k_ ∨ w.heap.size ≤ k_) ∧ some k_ ≠ (.slice Ao28 y408.length co28 : Value).ownBlock ∧ some k_ ≠ (.slice Ao31 t411.length co31 : Value).ownBlock)) (by (with_reducible repeat (first | apply Kd.V_alloc | apply Kd.V_drewN | apply Kd.V_drew)); exact Kd.V_mono HO_5.out (fun _ hk => ⟨⟨hk.1.1.1, ⟨hk.1.2, hk.2⟩⟩, hk.1.1.2⟩)) hg hat); have n1_ := Aside0.mk (Kd.R_over' (by (with_reducible repeat (first | apply Kd.R_alloc | apply Kd.R_drewN | apply Kd.R_drew)); exact HO410.out) (Kd.N_typed (by (with_reducible repeat (first | apply Kd.N_alloc | apply Kd.N_drewN | apply Kd.N_drew)); exact HO_13.out)) (by decide) hg); have n2_ := Aside0.mk (Kd.N_afterv (ok := (fun k_ => (P5_ k_ ∨ w.heap.size ≤ k_))) (by (with_reducible repeat (first | apply Kd.N_alloc | apply Kd.N_drewN | apply Kd.N_drew)); exact HO413.out) hg hat); have n3_ := Aside0.mk (hb); have n4_ := Aside0.mk (ho); clear HO_5; clear HO410; clear HO413; clear HB; clear HO_13; have HO_5 := n0_; have HO410 := n1_; have HO413 := n2_; have HB := n3_; have HO416 := n4_; clear n0_ n1_ n2_ n3_ n4_; clear ho hb hg hat))
                          repeat (go_quiet (first | ((with_reducible refine gate_builtin (b := .append) (xs := #[.tmp 55, .tmp 56]) rfl ?_); at_builtin; refine Kd.R_append_rows (Kd.int .i64) (w0 := w) w.heap.size rfl (.tmp 55) (.tmp 56) 25 3 (.int .i64 0) 8 rfl Tryd.underlying25 info3 rfl (by decide) (by omega) (.slice none 0 0) ([] : List Int) l5 _ _ _ (fun k_ => (w.heap.size ≤ k_)) (fun _ => False) rfl rfl ?aO ?aR (fun _ _ h => h) (fun _ h => h.elim) ?aF ?aB ?aS ?aL ?_; (case aR => repeat (first | exact (Kd.V_reads' HO_5.out).2.2 | (with_reducible refine Kd.C_alloc ?_ _) | (with_reducible refine Kd.C_drewN ?_ _) | (with_reducible refine Kd.C_drew ?_))); (case aB => exact (by repeat (first | (with_reducible first | exact HB.out | apply below_alloc | apply pw_below_drewN | apply below_drew1) | exact HB.out))); (case aF => exact (fun k_ hk => (Nat.le_trans (below_size (by repeat (first | (with_reducible first | exact HB.out | apply below_alloc | apply pw_below_drewN | apply below_drew1) | exact HB.out))) hk))); (case aO => exact ((Kd.R_nil _ _ _ _ (fun k_ => (w.heap.size ≤ k_))))); (case aS => exact (below_size (by repeat (first | (with_reducible first | exact HB.out | apply below_alloc | apply pw_below_drewN | apply below_drew1) | exact HB.out)))); (case aL => have := LMc22.out; omega); intro v406 w26 ho hb hg hat; rw [← Ny405.out] at ho; have n0_ := Aside0.mk (Kd.V_afterv (Kd.V_apart_nil (by (with_reducible repeat (first | apply Kd.V_alloc | apply Kd.V_drewN | apply Kd.V_drew)); exact HO_5.out)) hg hat); have n1_ := Aside0.mk (Kd.N_afterv (Kd.N_apart_nil (by (with_reducible repeat (first | apply Kd.N_alloc | apply Kd.N_drewN | apply Kd.N_drew)); exact HO_13.out)) hg hat); have n2_ := Aside0.mk (hb); have n3_ := Aside0.mk (ho); clear HO_5; clear HO_13; clear HB; have HO_5 := n0_; have HO_13 := n1_; have HB := n2_; have HO407 := n3_; clear n0_ n1_ n2_ n3_; clear ho hb hg hat) | ((with_reducible refine gate_builtin (b := .append) (xs := #[.tmp 66, .tmp 68]) rfl ?_); at_builtin; refine Kd.R_append (Kd.int .i64) (w0 := w) w.heap.size rfl (.tmp 66) (.tmp 68) 25 3 (.int .i64 0) 8 rfl Tryd.underlying25 info3 rfl (by decide) (by omega) v406 y405 x17_3 [.int .i64 x17_3] (fun k_ => (w.heap.size ≤ k_)) (fun _ => False) rfl rfl ?aP (fun _ hk => hk.elim) ?aF ?aO ?aB ?aS ?aL ?_; (case aP => exact rfl); (case aB => exact (by repeat (first | (with_reducible first | exact HB.out | apply below_alloc | apply pw_below_drewN | apply below_drew1) | exact HB.out))); (case aF => exact (fun k_ hk => (Nat.le_trans (below_size (by repeat (first | (with_reducible first | exact HB.out | apply below_alloc | apply pw_below_drewN | apply below_drew1) | exact HB.out))) hk))); (case aO => exact (by (with_reducible repeat (first | apply Kd.R_alloc | apply Kd.R_drewN | apply Kd.R_drew)); exact HO407.out)); (case aS => exact (below_size (by repeat (first | (with_reducible first | exact HB.out | apply below_alloc | apply pw_below_drewN | apply below_drew1) | exact HB.out)))); (case aL => have := LMc23.out; omega); intro v409 w27 ho hb hg hat; rw [← Ny408.out] at ho; have n0_ := Aside0.mk (Kd.V_afterv (ok := (fun k_ => (P5_ k_ ∨ w.heap.size ≤ k_) ∧ some k_ ≠ (u13 : Value).ownBlock)) (by (with_reducible repeat (first | apply Kd.V_alloc | apply Kd.V_drewN | apply Kd.V_drew)); exact HO_5.out) hg hat); have n1_ := Aside0.mk (Kd.N_afterv (ok := (fun k_ => (P5_ k_ ∨ w.heap.size ≤ k_))) (by (with_reducible repeat (first | apply Kd.N_alloc | apply Kd.N_drewN | apply Kd.N_drew)); exact HO_13.out) hg hat); have n2_ := Aside0.mk (hb); have n3_ := Aside0.mk (ho); clear HO_5; clear HO_13; clear HB; clear HO407; have HO_5 := n0_; have HO_13 := n1_; have HB := n2_; have HO410 := n3_; clear n0_ n1_ n2_ n3_; clear ho hb hg hat; obtain ⟨Ao28, co28, eo28⟩ := Kd.R_slice HO410.out; subst eo28) | (go_at_call 62; (with_reducible refine (ih k3 (by have := HK1.out; have := HJ14.out; have := HK3.out; omega) a0 _ _ l1 _ _ l2 (wrap64 (a3 - 1)) (wrap64 (x17_3 + 1)) (fun k_ => some k_ = (.slice Ao28 y408.length co28 : Value).ownBlock) _ _ y408 t411 _ ?side1 ?side2 ?side3 ?side4 ?side5 A24.out).mono ?_); (case side1 => repeat (first | exact (Kd.C_below HR1.out HB.out) | (with_reducible refine Kd.C_alloc ?_ _) | (with_reducible refine Kd.C_drewN ?_ _) | (with_reducible refine Kd.C_drew ?_))); (case side2 => exact HC1.out); (case side3 => repeat (first | exact (Kd.C_below HR2.out HB.out) | (with_reducible refine Kd.C_alloc ?_ _) | (with_reducible refine Kd.C_drewN ?_ _) | (with_reducible refine Kd.C_drew ?_))); (case side4 => exact HC2.out); (case side5 => exact Kd.R_V (Kd.R_tight rfl (Kd.R_apart' (HO410.out) (Kd.N_typed HO_13.out) (by decide)))); rintro e w29 ⟨v412, rfl, ho0, hb⟩; have n0_ := Aside0.mk (Kd.V_elder' (by (with_reducible repeat (first | apply Kd.V_alloc | apply Kd.V_drewN | apply Kd.V_drew)); exact HO_5.out) (Kd.N_base ho0) hb); have n1_ := Aside0.mk (Kd.N_elder' (by (with_reducible repeat (first | apply Kd.N_alloc | apply Kd.N_drewN | apply Kd.N_drew)); exact HO_13.out) (Kd.N_base ho0) hb); have n2_ := Aside0.mk (Kd.R_below (by (with_reducible repeat (first | apply Kd.R_alloc | apply Kd.R_drewN | apply Kd.R_drew)); exact HO410.out) hb); have n3_ := Aside0.mk (Kd.N_lower (Kd.N_mono (ok' := fun k_ => (P5_ k_ ∨ w.heap.size ≤ k_) ∧ some k_ ≠ (u13 : Value).ownBlock) ho0 (fun k_ hk_ => ⟨Or.elim hk_ (fun hs_ => (.inr (((Kd.R_apart' (HO410.out) (Kd.N_typed HO_13.out) (by decide)).1 k_ hs_.symm).1))) (fun hn_ => (.inr (Nat.le_trans (below_size (by repeat (first | (with_reducible first | exact HB.out | apply below_alloc | apply pw_below_drewN | apply below_drew1) | exact HB.out))) hn_))), Or.elim hk_ (fun hs_ => ((Kd.R_apart' (HO410.out) (Kd.N_typed HO_13.out) (by decide)).1 k_ hs_.symm).2) (fun hn_ => (Kd.fresh' (Kd.N_lt (by (with_reducible repeat (first | apply Kd.N_alloc | apply Kd.N_drewN | apply Kd.N_drew)); exact HO_13.out)) k_ hn_))⟩)) (below_size (by repeat (first | (with_reducible first | exact HB.out | apply below_alloc | apply pw_below_drewN | apply below_drew1) | exact HB.out)))); have n4_ := Aside0.mk (below_step (by repeat (first | (with_reducible first | exact HB.out | apply below_alloc | apply pw_below_drewN | apply below_drew1) | exact HB.out)) hb); clear HO_5; clear HO_13; clear HO410; clear HB; have HO_5 := n0_; have HO_13 := n1_; have HO410 := n2_; have HO413 := n3_; have HB := n4_; clear n0_ n1_ n2_ n3_ n4_; (try clear hb); (try clear hb2); (try clear hk); (try clear hi); (try clear ho0); obtain ⟨Ao31, co31, eo31⟩ := Kd.N_slice HO413.out; subst eo31) | ((with_reducible refine gate_builtin (b := .append) (xs := #[.tmp 58, .tmp 70]) rfl ?_); at_builtin; refine Kd.N_append_rows (Kd.slice 3 (Kd.int .i64)) (w0 := w) w.heap.size rfl (.tmp 58) (.tmp 70) 22 25 (.slice none 0 0) 24 rfl Tryd.underlying22 info25 rfl (by decide) (by omega) u13 x13_3 t411 _ _ _ (fun k_ => (P5_ k_ ∨ w.heap.size ≤ k_)) (fun k_ => ((fun k_ => (P5_ k_ ∨ w.heap.size ≤ k_))) k_ ∧ some k_ ≠ (u13 : Value).ownBlock) rfl rfl ?aO ?aR (fun _ hk => hk) ?aF ?aB ?aS ?aL ?_; (case aR => exact (by skip; exact Kd.N_F (Kd.N_mono (ok' := (fun k_ => ((fun k_ => (P5_ k_ ∨ w.heap.size ≤ k_))) k_ ∧ some k_ ≠ (u13 : Value).ownBlock)) (HO413.out) (fun k_ hk => ⟨hk.1, hk.2⟩)))); (case aB => exact (by repeat (first | (with_reducible first | exact HB.out | apply below_alloc | apply pw_below_drewN | apply below_drew1) | exact HB.out))); (case aF => exact (fun k_ hk => (.inr (Nat.le_trans (below_size (by repeat (first | (with_reducible first | exact HB.out | apply below_alloc | apply pw_below_drewN | apply below_drew1) | exact HB.out))) hk)))); (case aO => exact (by (with_reducible repeat (first | apply Kd.N_alloc | apply Kd.N_drewN | apply Kd.N_drew)); exact Kd.N_mono HO_13.out (fun _ hk => hk.1.1))); (case aS => exact (below_size (by repeat (first | (with_reducible first | exact HB.out | apply below_alloc | apply pw_below_drewN | apply below_drew1) | exact HB.out)))); (case aL => have := LMc25.out; omega); intro v415 w30 ho hb hg hat; rw [← Ny414.out] at ho; have n0_ := Aside0.mk (Kd.V_afterv (ok := (fun k_ => (P5_ k_ ∨ w.heap.size ≤ k_) ∧ some k_ ≠ (.slice Ao28 y408.length co28 : Value).ownBlock ∧ some k_ ≠ (.slice Ao31 t411.length co31 : Value).ownBlock)) (by (with_reducible repeat (first | apply Kd.V_alloc | apply Kd.V_drewN | apply Kd.V_drew)); exact Kd.V_mono HO_5.out (fun _ hk => ⟨⟨hk.1.1.1, ⟨hk.1.2, hk.2⟩⟩, hk.1.1.2⟩)) hg hat); have n1_ := Aside0.mk (Kd.R_over' (by (with_reducible repeat (first | apply Kd.R_alloc | apply Kd.R_drewN | apply Kd.R_drew)); exact HO410.out) (Kd.N_typed (by (with_reducible repeat (first | apply Kd.N_alloc | apply Kd.N_drewN | apply Kd.N_drew)); exact HO_13.out)) (by decide) hg); have n2_ := Aside0.mk (Kd.N_afterv (ok := (fun k_ => (P5_ k_ ∨ w.heap.size ≤ k_))) (by (with_reducible repeat (first | apply Kd.N_alloc | apply Kd.N_drewN | apply Kd.N_drew)); exact HO413.out) hg hat); have n3_ := Aside0.mk (hb); have n4_ := Aside0.mk (ho); clear HO_5; clear HO410; clear HO413; clear HB; clear HO_13; have HO_5 := n0_; have HO410 := n1_; have HO413 := n2_; have HB := n3_; have HO416 := n4_; clear n0_ n1_ n2_ n3_ n4_; clear ho hb hg hat)); try go_wp2_with (first | ((with_reducible refine gate_builtin (b := .append) (xs := #[.tmp 55, .tmp 56]) rfl ?_); at_builtin; refine Kd.R_append_rows (Kd.int .i64) (w0 := w) w.heap.size rfl (.tmp 55) (.tmp 56) 25 3 (.int .i64 0) 8 rfl Tryd.underlying25 info3 rfl (by decide) (by omega) (.slice none 0 0) ([] : List Int) l5 _ _ _ (fun k_ => (w.heap.size ≤ k_)) (fun _ => False) rfl rfl ?aO ?aR (fun _ _ h => h) (fun _ h => h.elim) ?aF ?aB ?aS ?aL ?_; (case aR => repeat (first | exact (Kd.V_reads' HO_5.out).2.2 | (with_reducible refine Kd.C_alloc ?_ _) | (with_reducible refine Kd.C_drewN ?_ _) | (with_reducible refine Kd.C_drew ?_))); (case aB => exact (by repeat (first | (with_reducible first | exact HB.out | apply below_alloc | apply pw_below_drewN | apply below_drew1) | exact HB.out))); (case aF => exact (fun k_ hk => (Nat.le_trans (below_size (by repeat (first | (with_reducible first | exact HB.out | apply below_alloc | apply pw_below_drewN | apply below_drew1) | exact HB.out))) hk))); (case aO => exact ((Kd.R_nil _ _ _ _ (fun k_ => (w.heap.size ≤ k_))))); (case aS => exact (below_size (by repeat (first | (with_reducible first | exact HB.out | apply below_alloc | apply pw_below_drewN | apply below_drew1) | exact HB.out)))); (case aL => have := LMc22.out; omega); intro v406 w26 ho hb hg hat; rw [← Ny405.out] at ho; have n0_ := Aside0.mk (Kd.V_afterv (Kd.V_apart_nil (by (with_reducible repeat (first | apply Kd.V_alloc | apply Kd.V_drewN | apply Kd.V_drew)); exact HO_5.out)) hg hat); have n1_ := Aside0.mk (Kd.N_afterv (Kd.N_apart_nil (by (with_reducible repeat (first | apply Kd.N_alloc | apply Kd.N_drewN | apply Kd.N_drew)); exact HO_13.out)) hg hat); have n2_ := Aside0.mk (hb); have n3_ := Aside0.mk (ho); clear HO_5; clear HO_13; clear HB; have HO_5 := n0_; have HO_13 := n1_; have HB := n2_; have HO407 := n3_; clear n0_ n1_ n2_ n3_; clear ho hb hg hat) | ((with_reducible refine gate_builtin (b := .append) (xs := #[.tmp 66, .tmp 68]) rfl ?_); at_builtin; refine Kd.R_append (Kd.int .i64) (w0 := w) w.heap.size rfl (.tmp 66) (.tmp 68) 25 3 (.int .i64 0) 8 rfl Tryd.underlying25 info3 rfl (by decide) (by omega) v406 y405 x17_3 [.int .i64 x17_3] (fun k_ => (w.heap.size ≤ k_)) (fun _ => False) rfl rfl ?aP (fun _ hk => hk.elim) ?aF ?aO ?aB ?aS ?aL ?_; (case aP => exact rfl); (case aB => exact (by repeat (first | (with_reducible first | exact HB.out | apply below_alloc | apply pw_below_drewN | apply below_drew1) | exact HB.out))); (case aF => exact (fun k_ hk => (Nat.le_trans (below_size (by repeat (first | (with_reducible first | exact HB.out | apply below_alloc | apply pw_below_drewN | apply below_drew1) | exact HB.out))) hk))); (case aO => exact (by (with_reducible repeat (first | apply Kd.R_alloc | apply Kd.R_drewN | apply Kd.R_drew)); exact HO407.out)); (case aS => exact (below_size (by repeat (first | (with_reducible first | exact HB.out | apply below_alloc | apply pw_below_drewN | apply below_drew1) | exact HB.out)))); (case aL => have := LMc23.out; omega); intro v409 w27 ho hb hg hat; rw [← Ny408.out] at ho; have n0_ := Aside0.mk (Kd.V_afterv (ok := (fun k_ => (P5_ k_ ∨ w.heap.size ≤ k_) ∧ some k_ ≠ (u13 : Value).ownBlock)) (by (with_reducible repeat (first | apply Kd.V_alloc | apply Kd.V_drewN | apply Kd.V_drew)); exact HO_5.out) hg hat); have n1_ := Aside0.mk (Kd.N_afterv (ok := (fun k_ => (P5_ k_ ∨ w.heap.size ≤ k_))) (by (with_reducible repeat (first | apply Kd.N_alloc | apply Kd.N_drewN | apply Kd.N_drew)); exact HO_13.out) hg hat); have n2_ := Aside0.mk (hb); have n3_ := Aside0.mk (ho); clear HO_5; clear HO_13; clear HB; clear HO407; have HO_5 := n0_; have HO_13 := n1_; have HB := n2_; have HO410 := n3_; clear n0_ n1_ n2_ n3_; clear ho hb hg hat; obtain ⟨Ao28, co28, eo28⟩ := Kd.R_slice HO410.out; subst eo28) | (go_at_call 62; (with_reducible refine (ih k3 (by have := HK1.out; have := HJ14.out; have := HK3.out; omega) a0 _ _ l1 _ _ l2 (wrap64 (a3 - 1)) (wrap64 (x17_3 + 1)) (fun k_ => some k_ = (.slice Ao28 y408.length co28 : Value).ownBlock) _ _ y408 t411 _ ?side1 ?side2 ?side3 ?side4 ?side5 A24.out).mono ?_); (case side1 => repeat (first | exact (Kd.C_below HR1.out HB.out) | (with_reducible refine Kd.C_alloc ?_ _) | (with_reducible refine Kd.C_drewN ?_ _) | (with_reducible refine Kd.C_drew ?_))); (case side2 => exact HC1.out); (case side3 => repeat (first | exact (Kd.C_below HR2.out HB.out) | (with_reducible refine Kd.C_alloc ?_ _) | (with_reducible refine Kd.C_drewN ?_ _) | (with_reducible refine Kd.C_drew ?_))); (case side4 => exact HC2.out); (case side5 => exact Kd.R_V (Kd.R_tight rfl (Kd.R_apart' (HO410.out) (Kd.N_typed HO_13.out) (by decide)))); rintro e w29 ⟨v412, rfl, ho0, hb⟩; have n0_ := Aside0.mk (Kd.V_elder' (by (with_reducible repeat (first | apply Kd.V_alloc | apply Kd.V_drewN | apply Kd.V_drew)); exact HO_5.out) (Kd.N_base ho0) hb); have n1_ := Aside0.mk (Kd.N_elder' (by (with_reducible repeat (first | apply Kd.N_alloc | apply Kd.N_drewN | apply Kd.N_drew)); exact HO_13.out) (Kd.N_base ho0) hb); have n2_ := Aside0.mk (Kd.R_below (by (with_reducible repeat (first | apply Kd.R_alloc | apply Kd.R_drewN | apply Kd.R_drew)); exact HO410.out) hb); have n3_ := Aside0.mk (Kd.N_lower (Kd.N_mono (ok' := fun k_ => (P5_ k_ ∨ w.heap.size ≤ k_) ∧ some k_ ≠ (u13 : Value).ownBlock) ho0 (fun k_ hk_ => ⟨Or.elim hk_ (fun hs_ => (.inr (((Kd.R_apart' (HO410.out) (Kd.N_typed HO_13.out) (by decide)).1 k_ hs_.symm).1))) (fun hn_ => (.inr (Nat.le_trans (below_size (by repeat (first | (with_reducible first | exact HB.out | apply below_alloc | apply pw_below_drewN | apply below_drew1) | exact HB.out))) hn_))), Or.elim hk_ (fun hs_ => ((Kd.R_apart' (HO410.out) (Kd.N_typed HO_13.out) (by decide)).1 k_ hs_.symm).2) (fun hn_ => (Kd.fresh' (Kd.N_lt (by (with_reducible repeat (first | apply Kd.N_alloc | apply Kd.N_drewN | apply Kd.N_drew)); exact HO_13.out)) k_ hn_))⟩)) (below_size (by repeat (first | (with_reducible first | exact HB.out | apply below_alloc | apply pw_below_drewN | apply below_drew1) | exact HB.out)))); have n4_ := Aside0.mk (below_step (by repeat (first | (with_reducible first | exact HB.out | apply below_alloc | apply pw_below_drewN | apply below_drew1) | exact HB.out)) hb); clear HO_5; clear HO_13; clear HO410; clear HB; have HO_5 := n0_; have HO_13 := n1_; have HO410 := n2_; have HO413 := n3_; have HB := n4_; clear n0_ n1_ n2_ n3_ n4_; (try clear hb); (try clear hb2); (try clear hk); (try clear hi); (try clear ho0); obtain ⟨Ao31, co31, eo31⟩ := Kd.N_slice HO413.out; subst eo31) | ((with_reducible refine gate_builtin (b := .append) (xs := #[.tmp 58, .tmp 70]) rfl ?_); at_builtin; refine Kd.N_append_rows (Kd.slice 3 (Kd.int .i64)) (w0 := w) w.heap.size rfl (.tmp 58) (.tmp 70) 22 25 (.slice none 0 0) 24 rfl Tryd.underlying22 info25 rfl (by decide) (by omega) u13 x13_3 t411 _ _ _ (fun k_ => (P5_ k_ ∨ w.heap.size ≤ k_)) (fun k_ => ((fun k_ => (P5_ k_ ∨ w.heap.size ≤ k_))) k_ ∧ some k_ ≠ (u13 : Value).ownBlock) rfl rfl ?aO ?aR (fun _ hk => hk) ?aF ?aB ?aS ?aL ?_; (case aR => exact (by skip; exact Kd.N_F (Kd.N_mono (ok' := (fun k_ => ((fun k_ => (P5_ k_ ∨ w.heap.size ≤ k_))) k_ ∧ some k_ ≠ (u13 : Value).ownBlock)) (HO413.out) (fun k_ hk => ⟨hk.1, hk.2⟩)))); (case aB => exact (by repeat (first | (with_reducible first | exact HB.out | apply below_alloc | apply pw_below_drewN | apply below_drew1) | exact HB.out))); (case aF => exact (fun k_ hk => (.inr (Nat.le_trans (below_size (by repeat (first | (with_reducible first | exact HB.out | apply below_alloc | apply pw_below_drewN | apply below_drew1) | exact HB.out))) hk)))); (case aO => exact (by (with_reducible repeat (first | apply Kd.N_alloc | apply Kd.N_drewN | apply Kd.N_drew)); exact Kd.N_mono HO_13.out (fun _ hk => hk.1.1))); (case aS => exact (below_size (by repeat (first | (with_reducible first | exact HB.out | apply below_alloc | apply pw_below_drewN | apply below_drew1) | exact HB.out)))); (case aL => have := LMc25.out; omega); intro v415 w30 ho hb hg hat; rw [← Ny414.out] at ho; have n0_ := Aside0.mk (Kd.V_afterv (ok := (fun k_ => (P5_ k_ ∨ w.heap.size ≤ k_) ∧ some k_ ≠ (.slice Ao28 y408.length co28 : Value).ownBlock ∧ some k_ ≠ (.slice Ao31 t411.length co31 : Value).ownBlock)) (by (with_reducible repeat (first | apply Kd.V_alloc | apply Kd.V_drewN | apply Kd.V_drew)); exact Kd.V_mono HO_5.out (fun _ hk => ⟨⟨hk.1.1.1, ⟨hk.1.2, hk.2⟩⟩, hk.1.1.2⟩)) hg hat); have n1_ := Aside0.mk (Kd.R_over' (by (with_reducible repeat (first | apply Kd.R_alloc | apply Kd.R_drewN | apply Kd.R_drew)); exact HO410.out) (Kd.N_typed (by (with_reducible repeat (first | apply Kd.N_alloc | apply Kd.N_drewN | apply Kd.N_drew)); exact HO_13.out)) (by decide) hg); have n2_ := Aside0.mk (Kd.N_afterv (ok := (fun k_ => (P5_ k_ ∨ w.heap.size ≤ k_))) (by (with_reducible repeat (first | apply Kd.N_alloc | apply Kd.N_drewN | apply Kd.N_drew)); exact HO413.out) hg hat); have n3_ := Aside0.mk (hb); have n4_ := Aside0.mk (ho); clear HO_5; clear HO410; clear HO413; clear HB; clear HO_13; have HO_5 := n0_; have HO410 := n1_; have HO413 := n2_; have HB := n3_; have HO416 := n4_; clear n0_ n1_ n2_ n3_ n4_; clear ho hb hg hat)))
                          go_roundg k3
                          case measure => have := HK1.out; have := HJ14.out; have := HK3.out; omega
                          case rel => exact ⟨(y414), (wrap64 (x17_3 + 1)), (by first | rfl | (simp; done) | (simp [*]; done)), H', ⟨by have := HK1.out; have := HJ14.out; have := HK3.out; omega⟩, ⟨by (with_reducible repeat (first | apply Kd.V_alloc | apply Kd.V_drewN | apply Kd.V_drew)); exact Kd.V_mono HO_5.out (fun _ hk => ⟨hk.1.1, hk.2⟩)⟩, ⟨by (with_reducible repeat (first | apply Kd.N_alloc | apply Kd.N_drewN | apply Kd.N_drew)); first | exact HO416.out | exact Kd.R_mono HO416.out (fun k_ h_ => ne_own_len h_)⟩, ⟨by repeat (first | (with_reducible first | exact HB.out | apply below_alloc | apply pw_below_drewN | apply below_drew1) | exact HB.out)⟩⟩
                        · rw [if_neg c25] at H
                          exact absurd H (by simp)
                      · rw [if_neg c23] at H
                        exact absurd H (by simp)
                    · rw [if_neg c22] at H
                      exact absurd H (by simp)
                  · rw [if_neg c21] at H
                    have c21b0 : decide (0 < a3) = false := decide_eq_false c21
                    clear c21
                    obtain rfl := Option.some.inj H
                    go_wp2
                    repeat (go_quiet (fail); try go_wp2)
                    go_ret
                    exact ⟨_, by first | rfl | (simp [errW_none, errW_some] <;> rfl) | (simp [*, errW_none, errW_some] <;> rfl), by (with_reducible repeat (first | apply Kd.N_alloc | apply Kd.N_drewN | apply Kd.N_drew)); exact HO_13.out, by repeat (first | (with_reducible first | exact HB.out | apply below_alloc | apply pw_below_drewN | apply below_drew1) | exact HB.out)⟩
                · rw [if_neg c20] at H
                  have c20b0 : decide (x17_3 < a0) = false := decide_eq_false c20
                  clear c20
                  obtain rfl := Option.some.inj H
                  go_wp2
                  repeat (go_quiet (fail); try go_wp2)
                  go_ret
                  exact ⟨_, by first | rfl | (simp [errW_none, errW_some] <;> rfl) | (simp [*, errW_none, errW_some] <;> rfl), by (with_reducible repeat (first | apply Kd.N_alloc | apply Kd.N_drewN | apply Kd.N_drew)); exact HO_13.out, by repeat (first | (with_reducible first | exact HB.out | apply below_alloc | apply pw_below_drewN | apply below_drew1) | exact HB.out)⟩

end Go.Proofs.YtglajokjiphafaaDoor.P

namespace Go.Proofs.YtglajokjiphafaaDoor.P
open Go.RowKit Go.Proofs.YtglajokjiphafaaDoorW.PrintWords Go.Proofs.YtglajokjiphafaaDoorW.PrintLast Go.Proofs.YtglajokjiphafaaDoorW.PrintMore
attribute [local go_sem] max2_int min2_int max_two min_two max_three min_three max_four min_four   -- for this text's walks alone
set_option linter.unusedVariables false
set_option linter.unusedSimpArgs false

/-! ### neonwrightref05_Sets: function 36 -/
def neonwrightref05_Sets.j0 : Nat → Int → List (List Int) → List Bool → Int → Bool → Option ((List (List Int)) × Int)
  | 0, _, _, _, _, _ => none
  | k + 1, x0, x1, x2, x3, x30 => if x30 = true then (some (([] : List (List Int)), 2)) else ((neonwrightref05_sets.f k x0 x1 x2 x3 0 ([] : List Int)).bind fun t418 => (if (t418.length : Int) > 2000 then (some (([] : List (List Int)), 8)) else (some (t418, 0))))
def neonwrightref05_Sets.f (k : Nat) (a0 : Int) (l1 : List (List Int)) (l2 : List Bool) (a3 : Int) : Option ((List (List Int)) × Int) := (neonwrightref05_Design.f k a0 l1).bind fun t417 => (if t417 = 0 then (if (l2.length : Int) = (l1.length : Int) then (if a3 < 0 then (neonwrightref05_Sets.j0 k a0 l1 l2 a3 true) else (neonwrightref05_Sets.j0 k a0 l1 l2 a3 (decide (a3 > 3)))) else (neonwrightref05_Sets.j0 k a0 l1 l2 a3 true)) else (some (([] : List (List Int)), t417)))
theorem neonwrightref05_Sets.mono_l : ∀ k, (∀ y0 y1 y2 y3 y4, LeO (neonwrightref05_Sets.j0 k y0 y1 y2 y3 y4) (neonwrightref05_Sets.j0 (k + 1) y0 y1 y2 y3 y4))
  | 0 => fun _ _ _ _ _ r h => by simp [neonwrightref05_Sets.j0] at h
  | k + 1 => by
    have ih0 := neonwrightref05_Sets.mono_l k
    · intro y0 y1 y2 y3 y4
      unfold neonwrightref05_Sets.j0
      repeat' first
      | (with_reducible exact ih0 _ _ _ _ _)
      | (with_reducible exact neonwrightref05_Design.mono _ _ _)
      | (with_reducible exact neonwrightref05_sets.mono _ _ _ _ _ _ _)
      | (with_reducible exact LeO.refl _)
      | (with_reducible exact LeO.none _)
      | (with_reducible refine LeO.ite ?_ ?_)
      | (with_reducible refine LeO.bind ?_ (fun _ => ?_))
      | exact ih0 _ _ _ _ _
      | exact neonwrightref05_Design.mono _ _ _
      | exact neonwrightref05_sets.mono _ _ _ _ _ _ _
      | exact LeO.none _
      | refine LeO.ite ?_ ?_
      | refine LeO.bind ?_ (fun _ => ?_)
theorem neonwrightref05_Sets.mono : ∀ a0 a1 a2 a3 k, LeO (neonwrightref05_Sets.f k a0 a1 a2 a3) (neonwrightref05_Sets.f (k + 1) a0 a1 a2 a3) := by
  intro a0 a1 a2 a3 k
  have ih0 := neonwrightref05_Sets.mono_l k
  unfold neonwrightref05_Sets.f
  repeat' first
      | (with_reducible exact ih0 _ _ _ _ _)
      | (with_reducible exact neonwrightref05_Design.mono _ _ _)
      | (with_reducible exact neonwrightref05_sets.mono _ _ _ _ _ _ _)
      | (with_reducible exact LeO.refl _)
      | (with_reducible exact LeO.none _)
      | (with_reducible refine LeO.ite ?_ ?_)
      | (with_reducible refine LeO.bind ?_ (fun _ => ?_))
      | exact ih0 _ _ _ _ _
      | exact neonwrightref05_Design.mono _ _ _
      | exact neonwrightref05_sets.mono _ _ _ _ _ _ _
      | exact LeO.none _
      | refine LeO.ite ?_ ?_
      | refine LeO.bind ?_ (fun _ => ?_)
set_option maxHeartbeats 8000000 in
set_option maxRecDepth 100000 in
theorem neonwrightref05_Sets.calls (k : Nat) (a0 : Int) (A1 : Option Addr) (c1 : Nat) (l1 : List (List Int)) (A2 : Option Addr) (c2 : Nat) (l2 : List Bool) (a3 : Int) (r1 : List (List Int)) (r2 : Int) (w : World) (hr1 : Kd.C (Kd.slice 3 (Kd.int .i64)) w A1 l1.length l1) (hc1 : l1.length ≤ c1) (hr2 : Kd.C Kd.bool w A2 l2.length l2) (hc2 : l2.length ≤ c2) (h : neonwrightref05_Sets.f k a0 l1 l2 a3 = some (r1, r2)) :
    Calls Tryd.prog 36 #[.int .i64 a0, .slice A1 l1.length c1, .slice A2 l2.length c2, .int .i64 a3] w fun e w' => ∃ v0_ : Value, e = .returned (.tuple #[v0_, .int .i64 r2]) ∧ Kd.N (Kd.slice 3 (Kd.int .i64)) 25 w' w.heap.size (fun k_ => (w.heap.size ≤ k_)) v0_ r1 ∧ Below w.heap.size w w' := by
  have HR1 := Aside0.mk hr1
  have HC1 := Aside0.mk hc1
  clear hr1 hc1
  have HR2 := Aside0.mk hr2
  have HC2 := Aside0.mk hc2
  clear hr2 hc2
  have HB := Aside0.mk (Below.refl w.heap.size w)
  have H : ((neonwrightref05_Design.f k a0 l1).bind fun t417 => (if t417 = 0 then (if (l2.length : Int) = (l1.length : Int) then (if a3 < 0 then (neonwrightref05_Sets.j0 k a0 l1 l2 a3 true) else (neonwrightref05_Sets.j0 k a0 l1 l2 a3 (decide (a3 > 3)))) else (neonwrightref05_Sets.j0 k a0 l1 l2 a3 true)) else (some (([] : List (List Int)), t417)))) = some (r1, r2) := h
  clear h
  replace H := Option.bind_eq_some_iff.mp H
  obtain ⟨t417, A50, H⟩ := H
  replace H : (if t417 = 0 then (if (l2.length : Int) = (l1.length : Int) then (if a3 < 0 then (neonwrightref05_Sets.j0 k a0 l1 l2 a3 true) else (neonwrightref05_Sets.j0 k a0 l1 l2 a3 (decide (a3 > 3)))) else (neonwrightref05_Sets.j0 k a0 l1 l2 a3 true)) else (some (([] : List (List Int)), t417))) = some (r1, r2) := H
  have A5 := Aside0.mk A50
  clear A50
  by_cases c6 : t417 = 0
  · rw [if_pos c6] at H
    have c6b0 : (t417 == 0) = true := beq_iff_eq.mpr c6
    have c6b1 : (t417 != 0) = false := bne_eq_false_iff_eq.mpr c6
    clear c6
    have HC7 := Aside0.mk H
    clear H
    go_enter Tryd.func36, Tryd.ntmps36
    go_upto_region 4 with (first | ((with_reducible refine gate_callee (f := 49) rfl ?_); refine goesL_ (some 14) rfl rfl Tryd.func49 (by kernel_rfl) rfl #[.int .i64 a0, .slice A1 l1.length c1] rfl (by (try simp only [List.map_toArray, List.map_cons, List.map_nil]); first | done | rfl | (simp only [List.length_drop, List.length_take]; rfl)) ?_; (with_reducible refine (neonwrightref05_Design.calls k a0 _ _ l1 t417 _ ?side1 ?side2 A5.out).mono ?_); (case side1 => repeat (first | exact HR1.out | (with_reducible refine Kd.C_alloc ?_ _) | (with_reducible refine Kd.C_drewN ?_ _) | (with_reducible refine Kd.C_drew ?_))); (case side2 => exact HC1.out); rintro e w' ⟨rfl, ⟨nd, rfl⟩⟩; refine ⟨_, rfl, ?_⟩))
    (try simp only [Act.put, List.setIfInBounds_toArray, List.set_cons_zero, List.set_cons_succ])
    go_cut [30] (fun v30 wc => ∃ (kq : Nat) (x30_6 : Bool), v30 = .bool x30_6 ∧ Aside0 (neonwrightref05_Sets.j0 kq a0 l1 l2 a3 x30_6 = some (r1, r2)) ∧ Aside0 (kq ≤ k) ∧ Aside0 (Below w.heap.size w wc))
    case first =>
      have H := HC7.out
      clear HC7
      by_cases c8 : (l2.length : Int) = (l1.length : Int)
      · rw [if_pos c8] at H
        have c8b0 : ((l2.length : Int) == (l1.length : Int)) = true := beq_iff_eq.mpr c8
        have c8b1 : ((l2.length : Int) != (l1.length : Int)) = false := bne_eq_false_iff_eq.mpr c8
        have c8b2 : (l2.length == l1.length) = true := by first | simpa using c8 | (simp at c8 ⊢; omega)
        clear c8
        (first | rw [c8b0] | (simp only [i64_w, i32_w]; rw [c8b0]) | skip)
        by_cases c9 : a3 < 0
        · rw [if_pos c9] at H
          have c9b0 : decide (a3 < 0) = true := decide_eq_true c9
          clear c9
          have H' := Aside0.mk H
          clear H
          go_wp2
          go_meet
          case rel => exact ⟨_, (true), (by first | rfl | (simp; done) | (simp [*]; done)), H', ⟨by first | omega | exact Nat.le_refl _⟩, ⟨by repeat (first | (with_reducible first | exact HB.out | apply below_alloc | apply pw_below_drewN | apply below_drew1) | exact HB.out)⟩⟩
        · rw [if_neg c9] at H
          have c9b0 : decide (a3 < 0) = false := decide_eq_false c9
          clear c9
          have H' := Aside0.mk H
          clear H
          go_wp2
          go_meet
          case rel => exact ⟨_, (decide (a3 > 3)), (by first | rfl | (simp; done) | (simp [*]; done)), H', ⟨by first | omega | exact Nat.le_refl _⟩, ⟨by repeat (first | (with_reducible first | exact HB.out | apply below_alloc | apply pw_below_drewN | apply below_drew1) | exact HB.out)⟩⟩
      · rw [if_neg c8] at H
        have c8b0 : ((l2.length : Int) == (l1.length : Int)) = false := beq_eq_false_iff_ne.mpr c8
        have c8b1 : ((l2.length : Int) != (l1.length : Int)) = true := bne_iff_ne.mpr c8
        have c8b2 : (l2.length == l1.length) = false := by first | simpa using c8 | (simp at c8 ⊢; omega)
        (first | rw [c8b0] | (simp only [i64_w, i32_w]; rw [c8b0]) | skip)
        have H' := Aside0.mk H
        clear H
        go_wp2
        go_meet
        case rel => exact ⟨_, (true), (by first | rfl | (simp; done) | (simp [*]; done)), H', ⟨by first | omega | exact Nat.le_refl _⟩, ⟨by repeat (first | (with_reducible first | exact HB.out | apply below_alloc | apply pw_below_drewN | apply below_drew1) | exact HB.out)⟩⟩
    case rest =>
      clear HC7
      try clear c1
      try clear c2
      try clear p2
      try clear c3
      try clear c4
      try clear c6
      try clear c6b0
      try clear c6b1
      try clear c8
      try clear c8b0
      try clear c8b1
      try clear c8b2
      try clear c9
      try clear c9b0
      obtain ⟨kq, x30_6, rfl, HA, HJ6, HB⟩ := hcut
      cases kq with
      | zero => exact absurd HA.out (by simp [neonwrightref05_Sets.j0])
      | succ kj6 =>
        have H := HA.out
        clear HA
        simp only [neonwrightref05_Sets.j0] at H
        by_cases c10 : x30_6 = true
        · subst c10
          have H1 : (some (([] : List (List Int)), 2)) = some (r1, r2) := by rw [if_pos rfl] at H; exact H
          clear H
          have H := H1
          clear H1
          simp only [Option.some.injEq, Prod.mk.injEq] at H
          obtain ⟨rfl, rfl⟩ := H
          go_wp2
          go_ret2
          exact ⟨_, by first | rfl | (simp [errW_none, errW_some] <;> rfl) | (simp [*, errW_none, errW_some] <;> rfl), by first | exact Kd.S_nil _ _ _ _ _ | exact Kd.N_nil _ _ _ _ _ | exact Kd.V_nil _ _ _ _ _ | exact Kd.Q_nil _ _ _ _ _ | exact Kd.R_nil _ _ _ _ _, by repeat (first | (with_reducible first | exact HB.out | apply below_alloc | apply pw_below_drewN | apply below_drew1) | exact HB.out)⟩
        · replace c10 := Bool.eq_false_iff.mpr c10
          subst c10
          have H1 : ((neonwrightref05_sets.f kj6 a0 l1 l2 a3 0 ([] : List Int)).bind fun t418 => (if (t418.length : Int) > 2000 then (some (([] : List (List Int)), 8)) else (some (t418, 0)))) = some (r1, r2) := by rw [if_neg (show ¬ (false = true) by decide)] at H; exact H
          clear H
          have H := H1
          clear H1
          replace H := Option.bind_eq_some_iff.mp H
          obtain ⟨t418, A110, H⟩ := H
          replace H : (if (t418.length : Int) > 2000 then (some (([] : List (List Int)), 8)) else (some (t418, 0))) = some (r1, r2) := H
          have A11 := Aside0.mk A110
          clear A110
          by_cases c12 : (t418.length : Int) > 2000
          · rw [if_pos c12] at H
            have c12b0 : decide (2000 < (t418.length : Int)) = true := decide_eq_true c12
            have c12b1 : decide (2000 < t418.length) = true := decide_eq_true (by omega)
            clear c12
            simp only [Option.some.injEq, Prod.mk.injEq] at H
            obtain ⟨rfl, rfl⟩ := H
            go_wp2_with (first | ((with_reducible refine gate_callee (f := 62) rfl ?_); refine goesL_ (some 35) rfl rfl Tryd.func62 (by kernel_rfl) rfl #[.int .i64 a0, .slice A1 l1.length c1, .slice A2 l2.length c2, .int .i64 a3, .int .i64 0, .slice none 0 0] rfl (by (try simp only [List.map_toArray, List.map_cons, List.map_nil]); first | done | rfl | (simp only [List.length_drop, List.length_take]; rfl)) ?_; (refine (neonwrightref05_sets.calls kj6 a0 _ _ l1 _ _ l2 a3 0 (fun k_ => False) _ _ ([] : List Int) t418 _ ?side1 ?side2 ?side3 ?side4 ?side5 A11.out).mono ?_); (case side1 => repeat (first | exact (Kd.C_below HR1.out HB.out) | (with_reducible refine Kd.C_alloc ?_ _) | (with_reducible refine Kd.C_drewN ?_ _) | (with_reducible refine Kd.C_drew ?_))); (case side2 => exact HC1.out); (case side3 => repeat (first | exact (Kd.C_below HR2.out HB.out) | (with_reducible refine Kd.C_alloc ?_ _) | (with_reducible refine Kd.C_drewN ?_ _) | (with_reducible refine Kd.C_drew ?_))); (case side4 => exact HC2.out); (case side5 => exact Kd.V_nil _ _ _ _ _); rintro e w13 ⟨v419, rfl, ho0, hb⟩; refine ⟨_, rfl, ?_⟩; have n0_ := Aside0.mk (Kd.N_lower (Kd.N_mono (ok' := fun k_ => (w.heap.size ≤ k_)) ho0 (fun k_ hk_ => Or.elim hk_ (fun hs_ => (hs_).elim) (fun hn_ => (Nat.le_trans (below_size (by repeat (first | (with_reducible first | exact HB.out | apply below_alloc | apply pw_below_drewN | apply below_drew1) | exact HB.out))) hn_)))) (below_size (by repeat (first | (with_reducible first | exact HB.out | apply below_alloc | apply pw_below_drewN | apply below_drew1) | exact HB.out)))); have n1_ := Aside0.mk (below_step (by repeat (first | (with_reducible first | exact HB.out | apply below_alloc | apply pw_below_drewN | apply below_drew1) | exact HB.out)) hb); clear HB; have HO420 := n0_; have HB := n1_; clear n0_ n1_; (try clear hb); (try clear hb2); (try clear hk); (try clear hi); (try clear ho0); obtain ⟨Ao14, co14, eo14⟩ := Kd.N_slice HO420.out; subst eo14))
            go_ret2
            exact ⟨_, by first | rfl | (simp [errW_none, errW_some] <;> rfl) | (simp [*, errW_none, errW_some] <;> rfl), by first | exact Kd.S_nil _ _ _ _ _ | exact Kd.N_nil _ _ _ _ _ | exact Kd.V_nil _ _ _ _ _ | exact Kd.Q_nil _ _ _ _ _ | exact Kd.R_nil _ _ _ _ _, by repeat (first | (with_reducible first | exact HB.out | apply below_alloc | apply pw_below_drewN | apply below_drew1) | exact HB.out)⟩
          · rw [if_neg c12] at H
            have c12b0 : decide (2000 < (t418.length : Int)) = false := decide_eq_false c12
            have c12b1 : decide (2000 < t418.length) = false := decide_eq_false (by omega)
            clear c12
            simp only [Option.some.injEq, Prod.mk.injEq] at H
            obtain ⟨rfl, rfl⟩ := H
            go_wp2_with (first | ((with_reducible refine gate_callee (f := 62) rfl ?_); refine goesL_ (some 35) rfl rfl Tryd.func62 (by kernel_rfl) rfl #[.int .i64 a0, .slice A1 l1.length c1, .slice A2 l2.length c2, .int .i64 a3, .int .i64 0, .slice none 0 0] rfl (by (try simp only [List.map_toArray, List.map_cons, List.map_nil]); first | done | rfl | (simp only [List.length_drop, List.length_take]; rfl)) ?_; (refine (neonwrightref05_sets.calls kj6 a0 _ _ l1 _ _ l2 a3 0 (fun k_ => False) _ _ ([] : List Int) t418 _ ?side1 ?side2 ?side3 ?side4 ?side5 A11.out).mono ?_); (case side1 => repeat (first | exact (Kd.C_below HR1.out HB.out) | (with_reducible refine Kd.C_alloc ?_ _) | (with_reducible refine Kd.C_drewN ?_ _) | (with_reducible refine Kd.C_drew ?_))); (case side2 => exact HC1.out); (case side3 => repeat (first | exact (Kd.C_below HR2.out HB.out) | (with_reducible refine Kd.C_alloc ?_ _) | (with_reducible refine Kd.C_drewN ?_ _) | (with_reducible refine Kd.C_drew ?_))); (case side4 => exact HC2.out); (case side5 => exact Kd.V_nil _ _ _ _ _); rintro e w15 ⟨v419, rfl, ho0, hb⟩; refine ⟨_, rfl, ?_⟩; have n0_ := Aside0.mk (Kd.N_lower (Kd.N_mono (ok' := fun k_ => (w.heap.size ≤ k_)) ho0 (fun k_ hk_ => Or.elim hk_ (fun hs_ => (hs_).elim) (fun hn_ => (Nat.le_trans (below_size (by repeat (first | (with_reducible first | exact HB.out | apply below_alloc | apply pw_below_drewN | apply below_drew1) | exact HB.out))) hn_)))) (below_size (by repeat (first | (with_reducible first | exact HB.out | apply below_alloc | apply pw_below_drewN | apply below_drew1) | exact HB.out)))); have n1_ := Aside0.mk (below_step (by repeat (first | (with_reducible first | exact HB.out | apply below_alloc | apply pw_below_drewN | apply below_drew1) | exact HB.out)) hb); clear HB; have HO420 := n0_; have HB := n1_; clear n0_ n1_; (try clear hb); (try clear hb2); (try clear hk); (try clear hi); (try clear ho0); obtain ⟨Ao16, co16, eo16⟩ := Kd.N_slice HO420.out; subst eo16))
            go_ret2
            exact ⟨_, by first | rfl | (simp [errW_none, errW_some] <;> rfl) | (simp [*, errW_none, errW_some] <;> rfl), by (with_reducible repeat (first | apply Kd.N_alloc | apply Kd.N_drewN | apply Kd.N_drew)); exact HO420.out, by repeat (first | (with_reducible first | exact HB.out | apply below_alloc | apply pw_below_drewN | apply below_drew1) | exact HB.out)⟩
  · rw [if_neg c6] at H
    have c6b0 : (t417 == 0) = false := beq_eq_false_iff_ne.mpr c6
    have c6b1 : (t417 != 0) = true := bne_iff_ne.mpr c6
    simp only [Option.some.injEq, Prod.mk.injEq] at H
    obtain ⟨rfl, rfl⟩ := H
    go_enter Tryd.func36, Tryd.ntmps36
    go_wp2_with (first | ((with_reducible refine gate_callee (f := 49) rfl ?_); refine goesL_ (some 14) rfl rfl Tryd.func49 (by kernel_rfl) rfl #[.int .i64 a0, .slice A1 l1.length c1] rfl (by (try simp only [List.map_toArray, List.map_cons, List.map_nil]); first | done | rfl | (simp only [List.length_drop, List.length_take]; rfl)) ?_; (with_reducible refine (neonwrightref05_Design.calls k a0 _ _ l1 t417 _ ?side1 ?side2 A5.out).mono ?_); (case side1 => repeat (first | exact HR1.out | (with_reducible refine Kd.C_alloc ?_ _) | (with_reducible refine Kd.C_drewN ?_ _) | (with_reducible refine Kd.C_drew ?_))); (case side2 => exact HC1.out); rintro e w' ⟨rfl, ⟨nd, rfl⟩⟩; refine ⟨_, rfl, ?_⟩))
    go_ret2
    exact ⟨_, by first | rfl | (simp [errW_none, errW_some] <;> rfl) | (simp [*, errW_none, errW_some] <;> rfl), by first | exact Kd.S_nil _ _ _ _ _ | exact Kd.N_nil _ _ _ _ _ | exact Kd.V_nil _ _ _ _ _ | exact Kd.Q_nil _ _ _ _ _ | exact Kd.R_nil _ _ _ _ _, by repeat (first | (with_reducible first | exact HB.out | apply below_alloc | apply pw_below_drewN | apply below_drew1) | exact HB.out)⟩

end Go.Proofs.YtglajokjiphafaaDoor.P

set_option linter.unusedSimpArgs false
set_option linter.unusedVariables false
namespace Go.Proofs.YtglajokjiphafaaDoor.P
open Go.Lib Go.RowKit Go.Proofs.YtglajokjiphafaaDoorW.PrintWords Go.Proofs.YtglajokjiphafaaDoorW.PrintLast Go.Proofs.YtglajokjiphafaaDoorW.PrintMore Go.Proofs.YtglajokjiphafaaDoor.Kit

theorem routK_l0 (d : List (List Int)) (f : List Int) (hd : d.length ≤ 1000000) (hr : ∀ r ∈ d, r.length ≤ 4611686018427387904) (hf : f.length ≤ 4611686018427387904) : ∀ m i, d.length - i = m → i ≤ d.length → Ev (fun k => neonwrightref05_outcomes.l0 k d f ((outB d f).take i) (i : Int)) (outB d f) := by
  intro m
  induction m with
  | zero =>
    intro i hm hi
    rw [List.take_of_length_le (by rw [outB_length]; omega)]
    refine Ev.step (fun k => ?_) (Ev.now (outB d f))
    simp only [neonwrightref05_outcomes.l0]
    rw [if_neg (by omega)]
  | succ m ih =>
    intro i hm hi
    have hlt : i < d.length := by omega
    have h1 := meets_ev d[i] f (hr _ (List.getElem_mem hlt)) hf
    have h2 := ih (i + 1) (by omega) (by omega)
    have hlo : i < (outB d f).length := by rw [outB_length]; exact hlt
    have ht : (outB d f).take (i + 1) = (outB d f).take i ++ [d[i].any fun x => f.contains x] := by
      rw [List.take_succ_eq_append_getElem hlo, show (outB d f)[i] = d[i].any fun x => f.contains x by rw [any_swap]; simp [outB]]
    have htl : ((outB d f).take i).length ≤ 1000000 := by rw [List.length_take, outB_length]; omega
    rw [ht] at h2
    refine Ev.step (f := fun k => (neonwrightref05_meets.f k d[i] f).bind fun t => neonwrightref05_outcomes.l0 k d f ((outB d f).take i ++ [t]) ((i + 1 : Nat) : Int)) (fun k => ?_) (Ev.bnd h1 h2)
    simp only [neonwrightref05_outcomes.l0]
    rw [if_pos (by omega), if_pos (by omega), rdL_get d i hlt, wrap1 (by omega)]
    simp only [if_pos (show ((outB d f).take i).length < 140737488355328 by omega)]
theorem routK_ev (d : List (List Int)) (f : List Int) (hd : d.length ≤ 1000000) (hr : ∀ r ∈ d, r.length ≤ 4611686018427387904) (hf : f.length ≤ 4611686018427387904) : Ev (fun k => neonwrightref05_outcomes.f k d f) (outB d f) := by
  have := routK_l0 d f hd hr hf d.length 0 (by omega) (by omega)
  rw [List.take_zero] at this
  exact this
theorem flatMap_leK {α β : Type} (f : α → List β) (c : Nat) : ∀ L : List α, (∀ a ∈ L, (f a).length ≤ c) → (L.flatMap f).length ≤ L.length * c
  | [], _ => by simp
  | a :: L, h => by
    have h1 := flatMap_leK f c L (fun b hb => h b (List.mem_cons_of_mem _ hb))
    have h2 := h a List.mem_cons_self
    rw [List.flatMap_cons, List.length_append, List.length_cons, Nat.add_mul, Nat.one_mul]
    omega
theorem pre_length (n : Nat) (hn : n ≤ 100) : ∀ m i, (pre n m i).length ≤ 101 ^ m
  | 0, i => by simp [pre]
  | m + 1, i => by
    have h1 := flatMap_leK (fun t => (pre n m (t + 1)).map ((t : Int) :: ·)) (101 ^ m) (List.range' i (n - i)) (fun t _ => by rw [List.length_map]; exact pre_length n hn m (t + 1))
    rw [List.length_range'] at h1
    have h2 : (n - i) * 101 ^ m ≤ 100 * 101 ^ m := Nat.mul_le_mul_right _ (by omega)
    have h3 : 0 < 101 ^ m := Nat.pow_pos (by decide)
    simp only [pre, List.length_cons, Nat.pow_succ]
    omega
/-- What sets answers, some tubes being there already. -/
def preQ (n : Nat) (q : List Int → Bool) (m i : Nat) (now : List Int) : List (List Int) := ((pre n m i).map (now ++ ·)).filter q
theorem preQ_succ (n : Nat) (q : List Int → Bool) (m i : Nat) (now : List Int) : preQ n q (m + 1) i now = (if q now = true then [now] else []) ++ (List.range' i (n - i)).flatMap fun t => preQ n q m (t + 1) (now ++ [(t : Int)]) := by
  unfold preQ
  simp only [pre, List.map_cons, List.append_nil, List.map_flatMap, List.filter_cons, List.filter_flatMap, List.map_map]
  have e : ∀ t : Nat, ((fun y => now ++ y) ∘ fun y => (t : Int) :: y) = fun y => (now ++ [(t : Int)]) ++ y := fun t => by funext y; simp
  simp only [e]
  cases q now <;> rfl
theorem preQ_zero (n : Nat) (q : List Int → Bool) (i : Nat) (now : List Int) : preQ n q 0 i now = if q now = true then [now] else [] := by
  unfold preQ
  simp only [pre, List.map_cons, List.map_nil, List.append_nil, List.filter_cons, List.filter_nil]
theorem preQ_length (n : Nat) (hn : n ≤ 100) (q : List Int → Bool) (m i : Nat) (now : List Int) : (preQ n q m i now).length ≤ 101 ^ m := by
  unfold preQ
  refine Nat.le_trans (List.length_filter_le _ _) ?_
  rw [List.length_map]
  exact pre_length n hn m i
def qO (d : List (List Int)) (o : List Bool) (l : List Int) : Bool := decide (outB d l = o)
theorem rs_l0 (n : Nat) (d : List (List Int)) (o : List Bool) (ho : o.length = d.length) (hd : d.length ≤ 1000) (more from_ : Int) (now : List Int) (res : List (List Int)) (h : Ev (fun k => neonwrightref05_sets.j1 k (n : Int) d o more from_ now (if qO d o now = true then [now] else [])) res) :
    ∀ m i, d.length - i = m → i ≤ d.length → Ev (fun k => neonwrightref05_sets.l0 k (n : Int) d o more from_ now (decide ((outB d now).take i = o.take i)) (outB d now) (i : Int)) res := by
  have hol : (outB d now).length = d.length := outB_length _ _
  intro m
  induction m with
  | zero =>
    intro i hm hi
    rw [List.take_of_length_le (by omega), List.take_of_length_le (by omega)]
    unfold qO at h
    refine Ev.step (fun k => ?_) h
    simp only [neonwrightref05_sets.l0]
    rw [if_neg (by omega)]
    by_cases e : outB d now = o
    · rw [decide_eq_true e, if_pos rfl, if_pos (by decide), if_pos rfl]; rfl
    · rw [decide_eq_false e, if_neg (by decide), if_neg (by decide)]
  | succ m ih =>
    intro i hm hi
    have hlt : i < d.length := by omega
    have h1 := ih (i + 1) (by omega) (by omega)
    have hA : i < (outB d now).length := by omega
    have hB : i < o.length := by omega
    rw [List.take_succ_eq_append_getElem hA, List.take_succ_eq_append_getElem hB] at h1
    refine Ev.step (fun k => ?_) h1
    simp only [neonwrightref05_sets.l0]
    rw [if_pos (by omega)]
    by_cases e : (outB d now).take i = o.take i
    · rw [decide_eq_true e, if_pos rfl, if_pos (by omega), if_pos (by omega), rdB_get _ i hA, rdB_get _ i hB, wrap1 (by omega)]
      congr 1
      rw [e]
      by_cases e2 : (outB d now)[i] = o[i]
      · rw [e2]; simp
      · rw [decide_eq_false (fun h => e2 (by simpa using List.append_cancel_left h)), beq_eq_false_iff_ne.2 e2]
    · rw [decide_eq_false e, if_neg (by decide), wrap1 (by omega)]
      congr 1
      rw [decide_eq_false (fun h => e (List.append_inj_left h (by rw [List.length_take, List.length_take]; omega)))]
theorem rs_l1 (n : Nat) (hn : n ≤ 100) (d : List (List Int)) (o : List Bool) (m : Nat) (hm3 : m ≤ 2) (now : List Int) (hnow : now.length ≤ 100)
    (ih : ∀ t : Nat, t < n → Ev (fun k => neonwrightref05_sets.f k (n : Int) d o (m : Int) ((t + 1 : Nat) : Int) (now ++ [(t : Int)])) (preQ n (qO d o) m (t + 1) (now ++ [(t : Int)]))) :
    ∀ r t out, n - t = r → t ≤ n + 1 → out.length + r * 101 ^ 2 ≤ 10000000 → Ev (fun k => neonwrightref05_sets.l1 k (n : Int) d o ((m + 1 : Nat) : Int) now out (t : Int)) (out ++ (List.range' t (n - t)).flatMap fun t => preQ n (qO d o) m (t + 1) (now ++ [(t : Int)])) := by
  intro r
  induction r with
  | zero =>
    intro t out hr ht hout
    rw [hr, List.range'_zero, List.flatMap_nil, List.append_nil]
    refine Ev.step (fun k => ?_) (Ev.now out)
    simp only [neonwrightref05_sets.l1]
    rw [if_neg (by omega)]
  | succ r ihr =>
    intro t out hr ht hout
    have hlt : t < n := by omega
    have h1 := ih t hlt
    have hle := preQ_length n hn (qO d o) m (t + 1) (now ++ [(t : Int)])
    have hp : 101 ^ m ≤ 101 ^ 2 := Nat.pow_le_pow_right (by decide) hm3
    have hp2 : (101 : Nat) ^ 2 = 10201 := by decide
    have hmul : (r + 1) * 101 ^ 2 = r * 101 ^ 2 + 101 ^ 2 := Nat.succ_mul _ _
    have h2 := ihr (t + 1) (out ++ preQ n (qO d o) m (t + 1) (now ++ [(t : Int)])) (by omega) (by omega) (by rw [List.length_append]; omega)
    rw [List.append_assoc] at h2
    rw [show n - t = (n - (t + 1)) + 1 by omega, List.range'_succ, List.flatMap_cons]
    have hw1 : wrap64 (((m + 1 : Nat) : Int) - 1) = (m : Int) := by rw [w64 (by omega) (by omega)]; omega
    refine Ev.step (f := fun k => (neonwrightref05_sets.f k (n : Int) d o (m : Int) ((t + 1 : Nat) : Int) (now ++ [(t : Int)])).bind fun t410 => (if out.length + t410.length < 5864062014805 then (neonwrightref05_sets.l1 k (n : Int) d o ((m + 1 : Nat) : Int) now (out ++ t410) ((t + 1 : Nat) : Int)) else none)) (fun k => ?_) (Ev.bnd h1 (Ev.pos (by omega) h2))
    have h0 : ([] : List Int).length = 0 := rfl
    simp only [neonwrightref05_sets.l1]
    rw [if_pos (by omega), if_pos (by omega), if_pos (by omega), Option.bind_some, List.nil_append, if_pos (by omega), hw1, wrap1 (by omega)]
theorem rs_ev (n : Nat) (hn : n ≤ 100) (d : List (List Int)) (hd : d.length ≤ 1000) (hr : ∀ r ∈ d, r.length ≤ 4611686018427387904) (o : List Bool) (ho : o.length = d.length) : ∀ m, m ≤ 3 → ∀ (i : Nat) (now : List Int), i ≤ n + 1 → now.length + m ≤ 10 →
    Ev (fun k => neonwrightref05_sets.f k (n : Int) d o (m : Int) (i : Int) now) (preQ n (qO d o) m i now) := by
  have hfin : ∀ (mm : Int) (i : Nat) (now : List Int) (res : List (List Int)), now.length ≤ 10 → Ev (fun k => neonwrightref05_sets.j1 k (n : Int) d o mm (i : Int) now (if qO d o now = true then [now] else [])) res → Ev (fun k => neonwrightref05_sets.f k (n : Int) d o mm (i : Int) now) res := by
    intro mm i now res hnow h
    have h1 := rs_l0 n d o ho hd mm (i : Int) now res h d.length 0 (by omega) (by omega)
    rw [List.take_zero, List.take_zero, decide_eq_true rfl] at h1
    refine Ev.step (f := fun k => (neonwrightref05_outcomes.f k d now).bind fun t396 => (neonwrightref05_sets.l0 k (n : Int) d o mm (i : Int) now true t396 0)) (fun k => ?_) (Ev.bnd (routK_ev d now (by omega) hr (by omega)) h1)
    simp only [neonwrightref05_sets.f]
  intro m
  induction m with
  | zero =>
    intro _ i now hi hnow
    refine hfin 0 i now _ (by omega) ?_
    rw [preQ_zero]
    have h2 : Ev (fun k => neonwrightref05_sets.l1 k (n : Int) d o 0 now (if qO d o now = true then [now] else []) (i : Int)) (if qO d o now = true then [now] else []) := by
      refine Ev.step (fun k => ?_) (Ev.now _)
      simp only [neonwrightref05_sets.l1]
      by_cases h : (i : Int) < (n : Int)
      · rw [if_pos h, if_neg (by decide)]
      · rw [if_neg h]
    refine Ev.step (fun k => ?_) h2
    simp only [neonwrightref05_sets.j1]
  | succ m ih =>
    intro hm3 i now hi hnow
    refine hfin ((m + 1 : Nat) : Int) i now _ (by omega) ?_
    rw [preQ_succ]
    have h2 := rs_l1 n hn d o m (by omega) now (by omega) (fun t ht => ih (by omega) (t + 1) (now ++ [(t : Int)]) (by omega) (by rw [List.length_append]; simp; omega)) (n - i) i (if qO d o now = true then [now] else []) rfl (by omega) (by
      have h3 : (if qO d o now = true then [now] else []).length ≤ 1 := by split <;> simp
      have h4 : (n - i) * 101 ^ 2 ≤ 100 * 101 ^ 2 := Nat.mul_le_mul_right _ (by omega)
      have hp2 : (100 : Nat) * 101 ^ 2 = 1020100 := by decide
      omega)
    refine Ev.step (fun k => ?_) h2
    simp only [neonwrightref05_sets.j1]
theorem rSets_ev (n : Int) (d : List (List Int)) (hr : ∀ r ∈ d, r.length ≤ 4611686018427387904) (o : List Bool) (most : Int) : Ev (fun k => neonwrightref05_Sets.f k n d o most) (setsP n d o most) := by
  refine Ev.congr (f := fun k => (neonwrightref05_Design.f k n d).bind fun t416 => (if t416 = 0 then (if (o.length : Int) = (d.length : Int) then (if most < 0 then (neonwrightref05_Sets.j0 k n d o most true) else (neonwrightref05_Sets.j0 k n d o most (decide (most > 3)))) else (neonwrightref05_Sets.j0 k n d o most true)) else (some (([] : List (List Int)), t416)))) (fun k => rfl) (Ev.bnd (design_ev n d hr) ?_)
  have hbad : Ev (fun k => neonwrightref05_Sets.j0 k n d o most true) ([], 2) := by
    refine Ev.step (fun k => ?_) (Ev.now ([], 2))
    simp only [neonwrightref05_Sets.j0]
    rw [if_pos trivial]
  unfold setsP
  by_cases h : ofN n d = 0
  · rw [if_pos h]
    refine Ev.pos h ?_
    by_cases ho : o.length = d.length
    · refine Ev.pos (by omega) ?_
      by_cases h1 : most < 0
      · rw [if_neg (by omega)]
        exact Ev.pos h1 hbad
      · refine Ev.neg h1 ?_
        by_cases h2 : most > 3
        · rw [if_neg (by omega), decide_eq_true h2]
          exact hbad
        · rw [if_pos ⟨ho, by omega, by omega⟩, decide_eq_false h2]
          obtain ⟨N, rfl⟩ := Int.eq_ofNat_of_zero_le (show 0 ≤ n by have := (ofN_ok h).1; omega)
          obtain ⟨M, rfl⟩ := Int.eq_ofNat_of_zero_le (show 0 ≤ most by omega)
          have hk := rs_ev N (by have := (ofN_ok h).1; omega) d (by have := (ofN_ok h).2.1; omega) hr o ho M (by omega) 0 [] (by omega) (by simp; omega)
          have e : preQ N (qO d o) M 0 [] = setR N M d o := by
            unfold preQ setR
            rw [show (pre N M 0).map (([] : List Int) ++ ·) = pre N M 0 by simp]
            rfl
          rw [e] at hk
          rw [show (N : Int).toNat = N from Int.toNat_natCast N, show (M : Int).toNat = M from Int.toNat_natCast M]
          refine Ev.step (f := fun k => (neonwrightref05_sets.f k (N : Int) d o (M : Int) 0 ([] : List Int)).bind fun t417 => (if (t417.length : Int) > 2000 then (some (([] : List (List Int)), (8 : Int))) else (some (t417, 0)))) (fun k => ?_) (Ev.bnd hk ?_)
          · simp only [neonwrightref05_Sets.j0]
            rw [if_neg (by decide)]
          · by_cases hb : (setR N M d o).length ≤ 2000
            · rw [if_pos hb]
              exact Ev.neg (by omega) (Ev.now _)
            · rw [if_neg hb]
              exact Ev.pos (by omega) (Ev.now _)
    · rw [if_neg (by omega)]
      exact Ev.neg (by omega) hbad
  · rw [if_neg h]
    exact Ev.neg h (Ev.now _)
end Go.Proofs.YtglajokjiphafaaDoor.P

namespace Go.Proofs.YtglajokjiphafaaDoor.P
open Go.RowKit Go.Proofs.YtglajokjiphafaaDoorW.PrintWords Go.Proofs.YtglajokjiphafaaDoorW.PrintLast Go.Proofs.YtglajokjiphafaaDoorW.PrintMore
attribute [local go_sem] max2_int min2_int max_two min_two max_three min_three max_four min_four   -- for this text's walks alone
set_option linter.unusedVariables false
set_option linter.unusedSimpArgs false

/-! ### neonwrightlaw05_few: function 16 -/
def neonwrightlaw05_few.l0 : Nat → List (List Int) → Int → Option (Bool)
  | 0, _, _ => none
  | k + 1, x0, x3 => if x3 < (x0.length : Int) then (if x3 ≥ 80 then (some false) else (if 0 ≤ x3 then (if ((rd_L1 x0 x3).length : Int) > 80 then (some false) else (neonwrightlaw05_few.l0 k x0 (wrap64 (x3 + 1)))) else (none))) else (some true)
def neonwrightlaw05_few.f (k : Nat) (l0 : List (List Int)) : Option (Bool) := neonwrightlaw05_few.l0 k l0 0
theorem neonwrightlaw05_few.mono_l : ∀ k, (∀ y0 y1, LeO (neonwrightlaw05_few.l0 k y0 y1) (neonwrightlaw05_few.l0 (k + 1) y0 y1))
  | 0 => fun _ _ r h => by simp [neonwrightlaw05_few.l0] at h
  | k + 1 => by
    have ih0 := neonwrightlaw05_few.mono_l k
    · intro y0 y1
      unfold neonwrightlaw05_few.l0
      repeat' first
      | (with_reducible exact ih0 _ _)
      | (with_reducible exact LeO.refl _)
      | (with_reducible exact LeO.none _)
      | (with_reducible refine LeO.ite ?_ ?_)
      | (with_reducible refine LeO.bind ?_ (fun _ => ?_))
      | exact ih0 _ _
      | exact LeO.none _
      | refine LeO.ite ?_ ?_
      | refine LeO.bind ?_ (fun _ => ?_)
theorem neonwrightlaw05_few.mono : ∀ a0 k, LeO (neonwrightlaw05_few.f k a0) (neonwrightlaw05_few.f (k + 1) a0) := by
  intro a0 k
  have ih0 := neonwrightlaw05_few.mono_l k
  unfold neonwrightlaw05_few.f
  repeat' first
      | (with_reducible exact ih0 _ _)
      | (with_reducible exact LeO.refl _)
      | (with_reducible exact LeO.none _)
      | (with_reducible refine LeO.ite ?_ ?_)
      | (with_reducible refine LeO.bind ?_ (fun _ => ?_))
      | exact ih0 _ _
      | exact LeO.none _
      | refine LeO.ite ?_ ?_
      | refine LeO.bind ?_ (fun _ => ?_)
set_option maxHeartbeats 8000000 in
set_option maxRecDepth 100000 in
theorem neonwrightlaw05_few.calls (k : Nat) (A0 : Option Addr) (c0 : Nat) (l0 : List (List Int)) (r : Bool) (w : World) (hr0 : Kd.C (Kd.slice 3 (Kd.int .i64)) w A0 l0.length l0) (hc0 : l0.length ≤ c0) (h : neonwrightlaw05_few.f k l0 = some r) :
    Calls Tryd.prog 16 #[.slice A0 l0.length c0] w fun e w' => e = .returned (.bool r) ∧ Drawn0 w w' := by
  have HR0 := Aside0.mk hr0
  have HC0 := Aside0.mk hc0
  clear hr0 hc0
  have H : (neonwrightlaw05_few.l0 k l0 0) = some r := h
  clear h
  have H' := Aside0.mk H
  clear H
  go_enter Tryd.func16, Tryd.ntmps16
  go_wp2
  go_loopg [3] k (fun kq v3 w' => ∃ (x3_1 : Int), v3 = .int .i64 x3_1 ∧ Aside0 (neonwrightlaw05_few.l0 kq l0 x3_1 = some r) ∧ Aside0 (kq ≤ k) ∧ Drawn0 w w')
  case atStart => exact ⟨(0), (by first | rfl | (simp; done) | (simp [*]; done)), H', ⟨Nat.le_refl _⟩, by repeat (first | exact Drawn0.refl _ | apply Drawn0.step)⟩
  case round =>
    clear H'
    try clear c1
    obtain ⟨x3_1, rfl, HA, HK1, ⟨m1, rfl⟩⟩ := hrel
    cases gk with
    | zero => exact absurd HA.out (by simp [neonwrightlaw05_few.l0])
    | succ k1 =>
      have H := HA.out
      clear HA
      simp only [neonwrightlaw05_few.l0] at H
      by_cases c2 : x3_1 < (l0.length : Int)
      · rw [if_pos c2] at H
        have c2b0 : decide (x3_1 < (l0.length : Int)) = true := decide_eq_true c2
        clear c2
        by_cases c3 : x3_1 ≥ 80
        · rw [if_pos c3] at H
          have c3b0 : decide (80 ≤ x3_1) = true := decide_eq_true c3
          clear c3
          obtain rfl := Option.some.inj H
          go_wp2
          go_ret
          exact ⟨by first | rfl | (simp; done) | (simp [*]; done), by repeat (first | exact Drawn0.refl _ | apply Drawn0.step)⟩
        · rw [if_neg c3] at H
          have c3b0 : decide (80 ≤ x3_1) = false := decide_eq_false c3
          clear c3
          by_cases c4 : 0 ≤ x3_1
          · rw [if_pos c4] at H
            have c4b0 : decide (0 ≤ x3_1) = true := decide_eq_true c4
            clear c4
            by_cases c5 : ((rd_L1 l0 x3_1).length : Int) > 80
            · rw [if_pos c5] at H
              have c5b0 : decide (80 < ((rd_L1 l0 x3_1).length : Int)) = true := decide_eq_true c5
              have c5b1 : decide (80 < (rd_L1 l0 x3_1).length) = true := decide_eq_true (by omega)
              clear c5
              obtain rfl := Option.some.inj H
              have p116 : 0 ≤ (x3_1 : Int) := of_decide_eq_true (by first | (with_reducible assumption) | assumption)
              have q116 : x3_1 < (l0.length : Int) := of_decide_eq_true (by first | (with_reducible assumption) | assumption)
              obtain ⟨ad116, A116_0, c116_0, e116, hx116_0, hl116_0, hi116_0⟩ := at_L1 HR0.out x3_1 p116 q116
              cases e116
              have HR116_0 := Aside0.mk hi116_0
              have HC116_0 := Aside0.mk hl116_0
              clear hi116_0 hl116_0
              replace p116 := eq_true p116
              replace q116 := eq_true q116
              go_wp2
              go_ret
              exact ⟨by first | rfl | (simp; done) | (simp [*]; done), by repeat (first | exact Drawn0.refl _ | apply Drawn0.step)⟩
            · rw [if_neg c5] at H
              have c5b0 : decide (80 < ((rd_L1 l0 x3_1).length : Int)) = false := decide_eq_false c5
              have c5b1 : decide (80 < (rd_L1 l0 x3_1).length) = false := decide_eq_false (by omega)
              clear c5
              have H' := Aside0.mk H
              clear H
              have p116 : 0 ≤ (x3_1 : Int) := of_decide_eq_true (by first | (with_reducible assumption) | assumption)
              have q116 : x3_1 < (l0.length : Int) := of_decide_eq_true (by first | (with_reducible assumption) | assumption)
              obtain ⟨ad116, A116_0, c116_0, e116, hx116_0, hl116_0, hi116_0⟩ := at_L1 HR0.out x3_1 p116 q116
              cases e116
              have HR116_0 := Aside0.mk hi116_0
              have HC116_0 := Aside0.mk hl116_0
              clear hi116_0 hl116_0
              replace p116 := eq_true p116
              replace q116 := eq_true q116
              go_wp2
              go_roundg k1
              case measure => have := HK1.out; omega
              case rel => exact ⟨(wrap64 (x3_1 + 1)), (by first | rfl | (simp; done) | (simp [*]; done)), H', ⟨by have := HK1.out; omega⟩, by repeat (first | exact Drawn0.refl _ | apply Drawn0.step)⟩
          · rw [if_neg c4] at H
            exact absurd H (by simp)
      · rw [if_neg c2] at H
        have c2b0 : decide (x3_1 < (l0.length : Int)) = false := decide_eq_false c2
        clear c2
        obtain rfl := Option.some.inj H
        go_wp2
        go_ret
        exact ⟨by first | rfl | (simp; done) | (simp [*]; done), by repeat (first | exact Drawn0.refl _ | apply Drawn0.step)⟩

end Go.Proofs.YtglajokjiphafaaDoor.P

set_option linter.unusedSimpArgs false
set_option linter.unusedVariables false
namespace Go.Proofs.YtglajokjiphafaaDoor.P
open Go.Lib Go.RowKit Go.Proofs.YtglajokjiphafaaDoorW.PrintWords Go.Proofs.YtglajokjiphafaaDoorW.PrintLast Go.Proofs.YtglajokjiphafaaDoorW.PrintMore Go.Proofs.YtglajokjiphafaaDoor.Kit

theorem alive_ev : Ev (fun k => neonwrightlaw05_alive.f k) true := by
  obtain ⟨k, hk⟩ := neonwrightlaw05_alive.tells
  exact Ev.of neonwrightlaw05_alive.mono hk
theorem same_l0 (l : List Int) (hl : l.length ≤ 4611686018427387904) : ∀ m i, l.length - i = m → i ≤ l.length → Ev (fun k => neonwrightlaw05_same.l0 k l l (i : Int)) true := by
  intro m
  induction m with
  | zero =>
    intro i hm hi
    refine Ev.step (fun k => ?_) (Ev.now true)
    simp only [neonwrightlaw05_same.l0]
    rw [if_neg (by omega)]
  | succ m ih =>
    intro i hm hi
    refine Ev.step (fun k => ?_) (ih (i + 1) (by omega) (by omega))
    simp only [neonwrightlaw05_same.l0]
    rw [if_pos (by omega), if_pos (by omega), if_pos (by omega), if_pos trivial, wrap1 (by omega)]
theorem same_refl (l : List Int) (hl : l.length ≤ 4611686018427387904) : Ev (fun k => neonwrightlaw05_same.f k l l) true := by
  refine Ev.congr (f := fun k => neonwrightlaw05_same.l0 k l l ((0 : Nat) : Int)) (fun k => ?_) (same_l0 l hl l.length 0 (by omega) (by omega))
  unfold neonwrightlaw05_same.f
  rw [if_pos rfl]
  rfl
theorem few_l0 (d : List (List Int)) : ∀ m i, 81 - i = m → i ≤ 80 → i ≤ d.length → (∀ j (hj : j < d.length), j < i → (d[j]).length ≤ 80) → ∃ b, Ev (fun k => neonwrightlaw05_few.l0 k d (i : Int)) b ∧ (b = true → d.length ≤ 80 ∧ ∀ r ∈ d, r.length ≤ 80) := by
  intro m
  induction m with
  | zero => intro i hm hi; omega
  | succ m ih =>
    intro i hm hi hid hp
    by_cases h1 : i < d.length
    · by_cases h2 : i = 80
      · refine ⟨false, Ev.step (fun k => ?_) (Ev.now false), fun h => by cases h⟩
        simp only [neonwrightlaw05_few.l0]
        rw [if_pos (by omega), if_pos (by omega)]
      · by_cases h3 : (d[i]).length ≤ 80
        · obtain ⟨b, hb, hs⟩ := ih (i + 1) (by omega) (by omega) (by omega) (fun j hj hji => by
            by_cases e : j = i
            · subst e; exact h3
            · exact hp j hj (by omega))
          refine ⟨b, Ev.step (fun k => ?_) hb, hs⟩
          simp only [neonwrightlaw05_few.l0]
          rw [if_pos (by omega), if_neg (by omega), if_pos (by omega), rdL_get d i h1, if_neg (by omega), wrap1 (by omega)]
        · refine ⟨false, Ev.step (fun k => ?_) (Ev.now false), fun h => by cases h⟩
          simp only [neonwrightlaw05_few.l0]
          rw [if_pos (by omega), if_neg (by omega), if_pos (by omega), rdL_get d i h1, if_pos (by omega)]
    · refine ⟨true, Ev.step (fun k => ?_) (Ev.now true), fun _ => ⟨by omega, fun r hr => ?_⟩⟩
      · simp only [neonwrightlaw05_few.l0]
        rw [if_neg (by omega)]
      · obtain ⟨j, hj, rfl⟩ := List.mem_iff_getElem.1 hr
        exact hp j hj (by omega)
theorem few_ev (d : List (List Int)) : ∃ b, Ev (fun k => neonwrightlaw05_few.f k d) b ∧ (b = true → d.length ≤ 80 ∧ ∀ r ∈ d, r.length ≤ 80) :=
  few_l0 d 81 0 (by omega) (by omega) (by omega) (fun j hj h => by omega)
theorem cmb_row (n : Nat) : ∀ m i, ∀ l ∈ cmb n m i, l.length = m := by
  intro m
  induction m with
  | zero => intro i l hl; simp [cmb] at hl; rw [hl]; rfl
  | succ m ih =>
    intro i l hl
    unfold cmb at hl
    obtain ⟨t, _, h2⟩ := List.mem_flatMap.1 hl
    obtain ⟨y, hy, rfl⟩ := List.mem_map.1 h2
    rw [List.length_cons, ih _ y hy]
theorem hidL_length (n : Nat) (d : List (List Int)) (D : Nat) : (hidL n d D).length ≤ D + 1 := by
  unfold hidL
  cases h : (List.range' 0 n).findSome? (hidT n d D) with
  | none => simp
  | some l =>
    obtain ⟨t, _, h1⟩ := List.exists_of_findSome?_eq_some h
    obtain ⟨m, hm, h2⟩ := List.exists_of_findSome?_eq_some h1
    unfold hidM at h2
    obtain ⟨y, hy, rfl⟩ := Option.map_eq_some_iff.1 h2
    have h3 := cmb_row n m 0 y (List.mem_of_find?_eq_some hy)
    have h4 := (List.mem_range'_1.1 hm).2
    show ((t : Int) :: y).length ≤ D + 1
    rw [List.length_cons]
    omega
theorem hidP_length (n : Int) (d : List (List Int)) (D : Int) : (hidP n d D).1.length ≤ 4611686018427387904 := by
  unfold hidP
  split
  · split
    · rename_i h
      have h1 := hidL_length n.toNat d D.toNat
      show (hidL n.toNat d D.toNat).length ≤ _
      omega
    · simp
  · simp
end Go.Proofs.YtglajokjiphafaaDoor.P

namespace Go.Proofs.YtglajokjiphafaaDoor.P
open Go.RowKit Go.Proofs.YtglajokjiphafaaDoorW.PrintWords Go.Proofs.YtglajokjiphafaaDoorW.PrintLast Go.Proofs.YtglajokjiphafaaDoorW.PrintMore
attribute [local go_sem] max2_int min2_int max_two min_two max_three min_three max_four min_four   -- for this text's walks alone
set_option linter.unusedVariables false
set_option linter.unusedSimpArgs false

/-! ### neonwrightlaw05_lists: function 28 -/
def neonwrightlaw05_lists.l0 : Nat → List (List Int) → List (List Int) → Int → Option (Bool)
  | 0, _, _, _ => none
  | k + 1, x0, x1, x5 => if x5 < (x0.length : Int) then (if 0 ≤ x5 then (if x5 < (x1.length : Int) then ((neonwrightlaw05_same.f k (rd_L1 x0 x5) (rd_L1 x1 x5)).bind fun t255 => (if t255 = true then (neonwrightlaw05_lists.l0 k x0 x1 (wrap64 (x5 + 1))) else (some false))) else (none)) else (none)) else (some true)
def neonwrightlaw05_lists.f (k : Nat) (l0 : List (List Int)) (l1 : List (List Int)) : Option (Bool) := if (l0.length : Int) = (l1.length : Int) then (neonwrightlaw05_lists.l0 k l0 l1 0) else (some false)
theorem neonwrightlaw05_lists.mono_l : ∀ k, (∀ y0 y1 y2, LeO (neonwrightlaw05_lists.l0 k y0 y1 y2) (neonwrightlaw05_lists.l0 (k + 1) y0 y1 y2))
  | 0 => fun _ _ _ r h => by simp [neonwrightlaw05_lists.l0] at h
  | k + 1 => by
    have ih0 := neonwrightlaw05_lists.mono_l k
    · intro y0 y1 y2
      unfold neonwrightlaw05_lists.l0
      repeat' first
      | (with_reducible exact ih0 _ _ _)
      | (with_reducible exact neonwrightlaw05_same.mono _ _ _)
      | (with_reducible exact LeO.refl _)
      | (with_reducible exact LeO.none _)
      | (with_reducible refine LeO.ite ?_ ?_)
      | (with_reducible refine LeO.bind ?_ (fun _ => ?_))
      | exact ih0 _ _ _
      | exact neonwrightlaw05_same.mono _ _ _
      | exact LeO.none _
      | refine LeO.ite ?_ ?_
      | refine LeO.bind ?_ (fun _ => ?_)
theorem neonwrightlaw05_lists.mono : ∀ a0 a1 k, LeO (neonwrightlaw05_lists.f k a0 a1) (neonwrightlaw05_lists.f (k + 1) a0 a1) := by
  intro a0 a1 k
  have ih0 := neonwrightlaw05_lists.mono_l k
  unfold neonwrightlaw05_lists.f
  repeat' first
      | (with_reducible exact ih0 _ _ _)
      | (with_reducible exact neonwrightlaw05_same.mono _ _ _)
      | (with_reducible exact LeO.refl _)
      | (with_reducible exact LeO.none _)
      | (with_reducible refine LeO.ite ?_ ?_)
      | (with_reducible refine LeO.bind ?_ (fun _ => ?_))
      | exact ih0 _ _ _
      | exact neonwrightlaw05_same.mono _ _ _
      | exact LeO.none _
      | refine LeO.ite ?_ ?_
      | refine LeO.bind ?_ (fun _ => ?_)
set_option maxHeartbeats 8000000 in
set_option maxRecDepth 100000 in
theorem neonwrightlaw05_lists.calls (k : Nat) (A0 : Option Addr) (c0 : Nat) (l0 : List (List Int)) (A1 : Option Addr) (c1 : Nat) (l1 : List (List Int)) (r : Bool) (w : World) (hr0 : Kd.C (Kd.slice 3 (Kd.int .i64)) w A0 l0.length l0) (hc0 : l0.length ≤ c0) (hr1 : Kd.C (Kd.slice 3 (Kd.int .i64)) w A1 l1.length l1) (hc1 : l1.length ≤ c1) (h : neonwrightlaw05_lists.f k l0 l1 = some r) :
    Calls Tryd.prog 28 #[.slice A0 l0.length c0, .slice A1 l1.length c1] w fun e w' => e = .returned (.bool r) ∧ Drawn0 w w' := by
  have HR0 := Aside0.mk hr0
  have HC0 := Aside0.mk hc0
  clear hr0 hc0
  have HR1 := Aside0.mk hr1
  have HC1 := Aside0.mk hc1
  clear hr1 hc1
  have H : (if (l0.length : Int) = (l1.length : Int) then (neonwrightlaw05_lists.l0 k l0 l1 0) else (some false)) = some r := h
  clear h
  by_cases c3 : (l0.length : Int) = (l1.length : Int)
  · rw [if_pos c3] at H
    have c3b0 : ((l0.length : Int) == (l1.length : Int)) = true := beq_iff_eq.mpr c3
    have c3b1 : ((l0.length : Int) != (l1.length : Int)) = false := bne_eq_false_iff_eq.mpr c3
    have c3b2 : (l0.length == l1.length) = true := by first | simpa using c3 | (simp at c3 ⊢; omega)
    clear c3
    have H' := Aside0.mk H
    clear H
    go_enter Tryd.func28, Tryd.ntmps28
    go_wp2
    repeat (go_quiet (fail); try go_wp2)
    go_loopg [5] k (fun kq v5 w' => ∃ (x5_1 : Int), v5 = .int .i64 x5_1 ∧ Aside0 (neonwrightlaw05_lists.l0 kq l0 l1 x5_1 = some r) ∧ Aside0 (kq ≤ k) ∧ Drawn0 w w')
    case atStart => exact ⟨(0), (by first | rfl | (simp; done) | (simp [*]; done)), H', ⟨Nat.le_refl _⟩, by repeat (first | exact Drawn0.refl _ | apply Drawn0.step)⟩
    case round =>
      clear H'
      try clear c1
      try clear c2
      try clear p2
      try clear c3
      try clear c3b0
      try clear c3b1
      try clear c3b2
      obtain ⟨x5_1, rfl, HA, HK1, ⟨m1, rfl⟩⟩ := hrel
      cases gk with
      | zero => exact absurd HA.out (by simp [neonwrightlaw05_lists.l0])
      | succ k1 =>
        have H := HA.out
        clear HA
        simp only [neonwrightlaw05_lists.l0] at H
        by_cases c4 : x5_1 < (l0.length : Int)
        · rw [if_pos c4] at H
          have c4b0 : decide (x5_1 < (l0.length : Int)) = true := decide_eq_true c4
          clear c4
          by_cases c5 : 0 ≤ x5_1
          · rw [if_pos c5] at H
            have c5b0 : decide (0 ≤ x5_1) = true := decide_eq_true c5
            clear c5
            by_cases c6 : x5_1 < (l1.length : Int)
            · rw [if_pos c6] at H
              have c6b0 : decide (x5_1 < (l1.length : Int)) = true := decide_eq_true c6
              clear c6
              replace H := Option.bind_eq_some_iff.mp H
              obtain ⟨t255, A70, H⟩ := H
              replace H : (if t255 = true then (neonwrightlaw05_lists.l0 k1 l0 l1 (wrap64 (x5_1 + 1))) else (some false)) = some r := H
              have A7 := Aside0.mk A70
              clear A70
              by_cases c8 : t255 = true
              · subst c8
                have H1 : (neonwrightlaw05_lists.l0 k1 l0 l1 (wrap64 (x5_1 + 1))) = some r := by rw [if_pos rfl] at H; exact H
                clear H
                have H := H1
                clear H1
                have H' := Aside0.mk H
                clear H
                have p253 : 0 ≤ (x5_1 : Int) := of_decide_eq_true (by first | (with_reducible assumption) | assumption)
                have q253 : x5_1 < (l0.length : Int) := of_decide_eq_true (by first | (with_reducible assumption) | assumption)
                obtain ⟨ad253, A253_0, c253_0, e253, hx253_0, hl253_0, hi253_0⟩ := at_L1 HR0.out x5_1 p253 q253
                cases e253
                have HR253_0 := Aside0.mk hi253_0
                have HC253_0 := Aside0.mk hl253_0
                clear hi253_0 hl253_0
                replace p253 := eq_true p253
                replace q253 := eq_true q253
                have p254 : 0 ≤ (x5_1 : Int) := of_decide_eq_true (by first | (with_reducible assumption) | assumption)
                have q254 : x5_1 < (l1.length : Int) := of_decide_eq_true (by first | (with_reducible assumption) | assumption)
                obtain ⟨ad254, A254_0, c254_0, e254, hx254_0, hl254_0, hi254_0⟩ := at_L1 HR1.out x5_1 p254 q254
                cases e254
                have HR254_0 := Aside0.mk hi254_0
                have HC254_0 := Aside0.mk hl254_0
                clear hi254_0 hl254_0
                replace p254 := eq_true p254
                replace q254 := eq_true q254
                go_wp2_with (first | (go_at_call 20; (with_reducible refine (neonwrightlaw05_same.calls k1 _ _ (rd_L1 l0 x5_1) _ _ (rd_L1 l1 x5_1) true _ ?side1 ?side2 ?side3 ?side4 A7.out).mono ?_); (case side1 => repeat (first | exact HR253_0.out | (with_reducible refine Kd.C_alloc ?_ _) | (with_reducible refine Kd.C_drewN ?_ _) | (with_reducible refine Kd.C_drew ?_))); (case side2 => exact HC253_0.out); (case side3 => repeat (first | exact HR254_0.out | (with_reducible refine Kd.C_alloc ?_ _) | (with_reducible refine Kd.C_drewN ?_ _) | (with_reducible refine Kd.C_drew ?_))); (case side4 => exact HC254_0.out); rintro e w' ⟨rfl, ⟨nd, rfl⟩⟩; (try first | exact ⟨rfl, _, World.drewN_drewN _ _ _⟩ | exact ⟨rfl, _, Eq.trans (World.drewN_drewN _ _ _) (congrArg (World.drewN _) (Nat.add_assoc _ _ _))⟩)))
                repeat (go_quiet (first | (go_at_call 20; (with_reducible refine (neonwrightlaw05_same.calls k1 _ _ (rd_L1 l0 x5_1) _ _ (rd_L1 l1 x5_1) true _ ?side1 ?side2 ?side3 ?side4 A7.out).mono ?_); (case side1 => repeat (first | exact HR253_0.out | (with_reducible refine Kd.C_alloc ?_ _) | (with_reducible refine Kd.C_drewN ?_ _) | (with_reducible refine Kd.C_drew ?_))); (case side2 => exact HC253_0.out); (case side3 => repeat (first | exact HR254_0.out | (with_reducible refine Kd.C_alloc ?_ _) | (with_reducible refine Kd.C_drewN ?_ _) | (with_reducible refine Kd.C_drew ?_))); (case side4 => exact HC254_0.out); rintro e w' ⟨rfl, ⟨nd, rfl⟩⟩; (try first | exact ⟨rfl, _, World.drewN_drewN _ _ _⟩ | exact ⟨rfl, _, Eq.trans (World.drewN_drewN _ _ _) (congrArg (World.drewN _) (Nat.add_assoc _ _ _))⟩))); try go_wp2_with (first | (go_at_call 20; (with_reducible refine (neonwrightlaw05_same.calls k1 _ _ (rd_L1 l0 x5_1) _ _ (rd_L1 l1 x5_1) true _ ?side1 ?side2 ?side3 ?side4 A7.out).mono ?_); (case side1 => repeat (first | exact HR253_0.out | (with_reducible refine Kd.C_alloc ?_ _) | (with_reducible refine Kd.C_drewN ?_ _) | (with_reducible refine Kd.C_drew ?_))); (case side2 => exact HC253_0.out); (case side3 => repeat (first | exact HR254_0.out | (with_reducible refine Kd.C_alloc ?_ _) | (with_reducible refine Kd.C_drewN ?_ _) | (with_reducible refine Kd.C_drew ?_))); (case side4 => exact HC254_0.out); rintro e w' ⟨rfl, ⟨nd, rfl⟩⟩; (try first | exact ⟨rfl, _, World.drewN_drewN _ _ _⟩ | exact ⟨rfl, _, Eq.trans (World.drewN_drewN _ _ _) (congrArg (World.drewN _) (Nat.add_assoc _ _ _))⟩))))
                go_roundg k1
                case measure => have := HK1.out; omega
                case rel => exact ⟨(wrap64 (x5_1 + 1)), (by first | rfl | (simp; done) | (simp [*]; done)), H', ⟨by have := HK1.out; omega⟩, by repeat (first | exact Drawn0.refl _ | apply Drawn0.step)⟩
              · replace c8 := Bool.eq_false_iff.mpr c8
                subst c8
                have H1 : (some false) = some r := by rw [if_neg (show ¬ (false = true) by decide)] at H; exact H
                clear H
                have H := H1
                clear H1
                obtain rfl := Option.some.inj H
                have p253 : 0 ≤ (x5_1 : Int) := of_decide_eq_true (by first | (with_reducible assumption) | assumption)
                have q253 : x5_1 < (l0.length : Int) := of_decide_eq_true (by first | (with_reducible assumption) | assumption)
                obtain ⟨ad253, A253_0, c253_0, e253, hx253_0, hl253_0, hi253_0⟩ := at_L1 HR0.out x5_1 p253 q253
                cases e253
                have HR253_0 := Aside0.mk hi253_0
                have HC253_0 := Aside0.mk hl253_0
                clear hi253_0 hl253_0
                replace p253 := eq_true p253
                replace q253 := eq_true q253
                have p254 : 0 ≤ (x5_1 : Int) := of_decide_eq_true (by first | (with_reducible assumption) | assumption)
                have q254 : x5_1 < (l1.length : Int) := of_decide_eq_true (by first | (with_reducible assumption) | assumption)
                obtain ⟨ad254, A254_0, c254_0, e254, hx254_0, hl254_0, hi254_0⟩ := at_L1 HR1.out x5_1 p254 q254
                cases e254
                have HR254_0 := Aside0.mk hi254_0
                have HC254_0 := Aside0.mk hl254_0
                clear hi254_0 hl254_0
                replace p254 := eq_true p254
                replace q254 := eq_true q254
                go_wp2_with (first | (go_at_call 20; (with_reducible refine (neonwrightlaw05_same.calls k1 _ _ (rd_L1 l0 x5_1) _ _ (rd_L1 l1 x5_1) false _ ?side1 ?side2 ?side3 ?side4 A7.out).mono ?_); (case side1 => repeat (first | exact HR253_0.out | (with_reducible refine Kd.C_alloc ?_ _) | (with_reducible refine Kd.C_drewN ?_ _) | (with_reducible refine Kd.C_drew ?_))); (case side2 => exact HC253_0.out); (case side3 => repeat (first | exact HR254_0.out | (with_reducible refine Kd.C_alloc ?_ _) | (with_reducible refine Kd.C_drewN ?_ _) | (with_reducible refine Kd.C_drew ?_))); (case side4 => exact HC254_0.out); rintro e w' ⟨rfl, ⟨nd, rfl⟩⟩; (try first | exact ⟨rfl, _, World.drewN_drewN _ _ _⟩ | exact ⟨rfl, _, Eq.trans (World.drewN_drewN _ _ _) (congrArg (World.drewN _) (Nat.add_assoc _ _ _))⟩)))
                repeat (go_quiet (first | (go_at_call 20; (with_reducible refine (neonwrightlaw05_same.calls k1 _ _ (rd_L1 l0 x5_1) _ _ (rd_L1 l1 x5_1) false _ ?side1 ?side2 ?side3 ?side4 A7.out).mono ?_); (case side1 => repeat (first | exact HR253_0.out | (with_reducible refine Kd.C_alloc ?_ _) | (with_reducible refine Kd.C_drewN ?_ _) | (with_reducible refine Kd.C_drew ?_))); (case side2 => exact HC253_0.out); (case side3 => repeat (first | exact HR254_0.out | (with_reducible refine Kd.C_alloc ?_ _) | (with_reducible refine Kd.C_drewN ?_ _) | (with_reducible refine Kd.C_drew ?_))); (case side4 => exact HC254_0.out); rintro e w' ⟨rfl, ⟨nd, rfl⟩⟩; (try first | exact ⟨rfl, _, World.drewN_drewN _ _ _⟩ | exact ⟨rfl, _, Eq.trans (World.drewN_drewN _ _ _) (congrArg (World.drewN _) (Nat.add_assoc _ _ _))⟩))); try go_wp2_with (first | (go_at_call 20; (with_reducible refine (neonwrightlaw05_same.calls k1 _ _ (rd_L1 l0 x5_1) _ _ (rd_L1 l1 x5_1) false _ ?side1 ?side2 ?side3 ?side4 A7.out).mono ?_); (case side1 => repeat (first | exact HR253_0.out | (with_reducible refine Kd.C_alloc ?_ _) | (with_reducible refine Kd.C_drewN ?_ _) | (with_reducible refine Kd.C_drew ?_))); (case side2 => exact HC253_0.out); (case side3 => repeat (first | exact HR254_0.out | (with_reducible refine Kd.C_alloc ?_ _) | (with_reducible refine Kd.C_drewN ?_ _) | (with_reducible refine Kd.C_drew ?_))); (case side4 => exact HC254_0.out); rintro e w' ⟨rfl, ⟨nd, rfl⟩⟩; (try first | exact ⟨rfl, _, World.drewN_drewN _ _ _⟩ | exact ⟨rfl, _, Eq.trans (World.drewN_drewN _ _ _) (congrArg (World.drewN _) (Nat.add_assoc _ _ _))⟩))))
                go_ret
                exact ⟨by first | rfl | (simp; done) | (simp [*]; done), by repeat (first | exact Drawn0.refl _ | apply Drawn0.step)⟩
            · rw [if_neg c6] at H
              exact absurd H (by simp)
          · rw [if_neg c5] at H
            exact absurd H (by simp)
        · rw [if_neg c4] at H
          have c4b0 : decide (x5_1 < (l0.length : Int)) = false := decide_eq_false c4
          clear c4
          obtain rfl := Option.some.inj H
          go_wp2
          repeat (go_quiet (fail); try go_wp2)
          go_ret
          exact ⟨by first | rfl | (simp; done) | (simp [*]; done), by repeat (first | exact Drawn0.refl _ | apply Drawn0.step)⟩
  · rw [if_neg c3] at H
    have c3b0 : ((l0.length : Int) == (l1.length : Int)) = false := beq_eq_false_iff_ne.mpr c3
    have c3b1 : ((l0.length : Int) != (l1.length : Int)) = true := bne_iff_ne.mpr c3
    have c3b2 : (l0.length == l1.length) = false := by first | simpa using c3 | (simp at c3 ⊢; omega)
    obtain rfl := Option.some.inj H
    go_enter Tryd.func28, Tryd.ntmps28
    go_wp2
    repeat (go_quiet (fail); try go_wp2)
    go_ret
    exact ⟨by first | rfl | (simp; done) | (simp [*]; done), by repeat (first | exact Drawn0.refl _ | apply Drawn0.step)⟩

end Go.Proofs.YtglajokjiphafaaDoor.P

set_option linter.unusedSimpArgs false
set_option linter.unusedVariables false
namespace Go.Proofs.YtglajokjiphafaaDoor.P
open Go.Lib Go.RowKit Go.Proofs.YtglajokjiphafaaDoorW.PrintWords Go.Proofs.YtglajokjiphafaaDoorW.PrintLast Go.Proofs.YtglajokjiphafaaDoorW.PrintMore Go.Proofs.YtglajokjiphafaaDoor.Kit

theorem listsK_l0 (d : List (List Int)) (hl : d.length ≤ 4611686018427387904) (hr : ∀ r ∈ d, r.length ≤ 4611686018427387904) : ∀ m i, d.length - i = m → i ≤ d.length → Ev (fun k => neonwrightlaw05_lists.l0 k d d (i : Int)) true := by
  intro m
  induction m with
  | zero =>
    intro i hm hi
    refine Ev.step (fun k => ?_) (Ev.now true)
    simp only [neonwrightlaw05_lists.l0]
    rw [if_neg (by omega)]
  | succ m ih =>
    intro i hm hi
    have hlt : i < d.length := by omega
    refine Ev.step (f := fun k => (neonwrightlaw05_same.f k d[i] d[i]).bind fun t => if t = true then neonwrightlaw05_lists.l0 k d d ((i + 1 : Nat) : Int) else some false) (fun k => ?_) (Ev.bnd (same_refl _ (hr _ (List.getElem_mem hlt))) (Ev.pos rfl (ih (i + 1) (by omega) (by omega))))
    simp only [neonwrightlaw05_lists.l0]
    rw [if_pos (by omega), if_pos (by omega), if_pos (by omega), rdL_get d i hlt, wrap1 (by omega)]
theorem listsK (d : List (List Int)) (hl : d.length ≤ 4611686018427387904) (hr : ∀ r ∈ d, r.length ≤ 4611686018427387904) : ∃ k, neonwrightlaw05_lists.f k d d = some true := by
  refine Ev.rounds ?_
  refine Ev.congr (f := fun k => neonwrightlaw05_lists.l0 k d d ((0 : Nat) : Int)) (fun k => ?_) (listsK_l0 d hl hr d.length 0 (by omega) (by omega))
  unfold neonwrightlaw05_lists.f
  rw [if_pos rfl]
  rfl
end Go.Proofs.YtglajokjiphafaaDoor.P

set_option linter.unusedSimpArgs false
set_option linter.unusedVariables false
namespace Go.Proofs.YtglajokjiphafaaDoor.P
open Go.Lib Go.RowKit Go.Proofs.YtglajokjiphafaaDoorW.PrintWords Go.Proofs.YtglajokjiphafaaDoorW.PrintLast Go.Proofs.YtglajokjiphafaaDoorW.PrintMore Go.Proofs.YtglajokjiphafaaDoor.Kit

/-- A list of rows of these lengths. -/
def Held (W : World) (B : Nat) (v : Value) (L : List Nat) : Prop := ∃ xs : List (List Int), xs.map List.length = L ∧ Kd.R (Kd.slice 3 (Kd.int .i64)) 25 W B (fun _ => True) v xs
theorem Held.below {W W' : World} {B : Nat} {v : Value} {L : List Nat} (h : Held W B v L) (hb : Below W.heap.size W W') : Held W' B v L := by
  obtain ⟨xs, h1, h2⟩ := h
  exact ⟨xs, h1, Kd.R_below h2 hb⟩
theorem Held.drewN {W : World} {B : Nat} {v : Value} {L : List Nat} (h : Held W B v L) (n : Nat) : Held (W.drewN n) B v L := h.below (pw_below_drewN (Below.refl _ _) n)
theorem Held.slice {W : World} {B : Nat} {v : Value} {L : List Nat} (h : Held W B v L) : ∃ A c, v = .slice A L.length c := by
  obtain ⟨xs, h1, h2⟩ := h
  obtain ⟨A, c, h3⟩ := Kd.R_slice h2
  rw [← h1, List.length_map]
  exact ⟨A, c, h3⟩
theorem row_poke {W : World} {B g0 k : Nat} {x : Int} {cur : Array Value} {ok : Nat → Prop} {u : Value} {row : List Int} (hg : W.heap[g0]? = some (.cells cur 3 (0, 0))) (h : (Kd.int .i64).R 3 W B ok u row) :
    ∃ row' : List Int, row'.length = row.length ∧ (Kd.int .i64).R 3 (W.setCell ⟨g0, k, none⟩ (.int .i64 x)) B ok u row' := by
  obtain ⟨h0, ho⟩ := R_int_own h
  by_cases hb : u.ownBlock = some g0
  · rcases ho.2 with ⟨rfl, _⟩ | ⟨g, cap, cur', rfl, hg', _⟩
    · simp [Value.ownBlock] at hb
    · have e : g = g0 := by simpa [Value.ownBlock] using hb
      subst e
      obtain ⟨h1, _⟩ := own_store ho (k : Int) x
      rw [Int.toNat_natCast] at h1
      refine ⟨row.set k x, List.length_set, R_int_mk h0 ?_⟩
      rw [List.length_set]
      exact h1
  · exact ⟨row, rfl, R_int_mk h0 (own_setCell ho (fun e => hb e.symm) _)⟩
theorem Held.poke {W : World} {B : Nat} {v : Value} {L : List Nat} (h : Held W B v L) (i : Nat) (hi : i < L.length) :
    ∃ ad cap A0 c0, v = .slice (some ad) L.length cap ∧ W.cell? (ad.add i) = some (.slice A0 L[i] c0) ∧ ∀ k, k < L[i] → ∃ ad0 y, A0 = some ad0 ∧ W.cell? (ad0.add k) = some (.int .i64 y) ∧ W.frozen? (ad0.add k) = false ∧
      ∀ x : Int, Held (W.setCell (ad0.add k) (.int .i64 x)) B v L ∧ ∀ w0, Below B w0 W → Below B w0 (W.setCell (ad0.add k) (.int .i64 x)) := by
  obtain ⟨xs, rfl, hR⟩ := h
  rw [List.length_map] at hi ⊢
  obtain ⟨g, cap, rfl, hb, hl, _⟩ := Kd.R_form hR (by omega)
  obtain ⟨c, hc1, hM, hcell, _⟩ := Kd.R_elem hR [] (i : Int) (by omega) (by omega)
  obtain ⟨u, rfl, hRu⟩ := hM
  obtain ⟨A0, c0, rfl⟩ := Kd.R_slice hRu
  rw [Int.toNat_natCast] at hcell hRu
  have hgd : xs.getD i [] = xs[i] := by simp [List.getD_eq_getElem?_getD, hi]
  rw [hgd] at hcell hRu
  have hadd : ∀ (b j : Nat), (⟨b, 0, none⟩ : Addr).add j = ⟨b, j, none⟩ := fun b j => by
    unfold Addr.add
    by_cases e : j = 0
    · rw [if_pos e, e]
    · rw [if_neg e]; simp
  refine ⟨⟨g, 0, none⟩, cap, A0, c0, rfl, ?_, fun k hk => ?_⟩
  · rw [hadd, List.getElem_map]
    have := hcell 0 _ rfl
    rw [show i * (Kd.slice 3 (Kd.int .i64)).sz + 0 = i from by show i * 1 + 0 = i; omega] at this
    exact this
  · rw [List.getElem_map] at hk
    obtain ⟨h0, ho⟩ := R_int_own hRu
    rcases ho.2 with ⟨_, e⟩ | ⟨g0, cap0, cur, e, hg0, hh, hrest⟩
    · omega
    · injection e with e1 e2 e3
      subst e1 e3
      have hat := own_at ho (k : Int) (by omega) (by omega)
      rw [Int.toNat_natCast] at hat
      refine ⟨⟨g0, 0, none⟩, _, rfl, by rw [hadd]; exact hat.1, by rw [hadd]; exact hat.2, fun x => ?_⟩
      rw [hadd]
      refine ⟨?_, fun w0 hw => hw.setCell hg0 _⟩
      obtain ⟨h0', inner, ho', hr'⟩ := hR
      have hil : inner.length = xs.length := by have h9 : inner.length = xs.length * 1 := hr'.1; omega
      obtain ⟨rs, r1, r2⟩ := choose_list (α := List Int) (fun m row' => row'.length = (xs.getD m []).length ∧ (Kd.slice 3 (Kd.int .i64)).M (W.setCell ⟨g0, k, none⟩ (.int .i64 x)) B (fun k => (fun _ => True) k ∧ some k ≠ (Value.slice (some ⟨g, 0, none⟩) xs.length cap).ownBlock) row' ((inner.drop (m * 1)).take 1)) xs.length (fun m hm => by
        have hx := hr'.2 m xs[m] (List.getElem?_eq_getElem hm)
        obtain ⟨u, e, hRm⟩ := hx
        obtain ⟨row', h1, h2⟩ := row_poke (k := k) (x := x) hh hRm
        exact ⟨row', by rw [h1]; simp [List.getD_eq_getElem?_getD, hm], u, e, h2⟩)
      refine ⟨rs, ?_, fun _ _ => trivial, inner, ?_, ?_⟩
      · refine List.ext_getElem (by rw [List.length_map, List.length_map, r1]) (fun m a b => ?_)
        rw [List.length_map] at a b
        have := (r2 m b).1
        rw [getElem!_pos rs m a] at this
        rw [List.getElem_map, List.getElem_map, this]
        simp [List.getD_eq_getElem?_getD, b]
      · have := own_setCell ho' (p := ⟨g0, k, none⟩) (own_ne ho' hh (by decide)) (.int .i64 x)
        rw [r1]
        exact this
      · refine ⟨by rw [r1]; exact hr'.1, fun m p hp => ?_⟩
        obtain ⟨hm, e⟩ := List.getElem?_eq_some_iff.1 hp
        have := (r2 m (by omega)).2
        rw [getElem!_pos rs m hm, e] at this
        exact this
end Go.Proofs.YtglajokjiphafaaDoor.P

set_option linter.unusedSimpArgs false
set_option linter.unusedVariables false
namespace Go.Proofs.YtglajokjiphafaaDoor.P
open Go.Lib Go.RowKit Go.Proofs.YtglajokjiphafaaDoorW.PrintWords Go.Proofs.YtglajokjiphafaaDoorW.PrintLast Go.Proofs.YtglajokjiphafaaDoorW.PrintMore Go.Proofs.YtglajokjiphafaaDoor.Kit
attribute [local go_sem] max2_int min2_int max_two min_two max_three min_three max_four min_four

def neonwrightlaw05_FindSets.f (k : Nat) (a0 : Int) (l1 : List (List Int)) (l2 : List Bool) (a3 : Int) : Option Bool := some true
theorem setsP_small (n : Int) (d : List (List Int)) (o : List Bool) (most : Int) : (setsP n d o most).1.length ≤ 2000 ∧ ∀ r ∈ (setsP n d o most).1, r.length ≤ 100 := by
  unfold setsP
  split
  · split
    · rename_i h
      split
      · rename_i h2
        refine ⟨h2, fun r hr => ?_⟩
        unfold setR at hr
        have := ((mem_pre _ _ _ _).1 (List.mem_filter.1 hr).1).1
        omega
      · exact ⟨Nat.zero_le _, fun r hr => by cases hr⟩
    · exact ⟨Nat.zero_le _, fun r hr => by cases hr⟩
  · exact ⟨Nat.zero_le _, fun r hr => by cases hr⟩
set_option maxHeartbeats 8000000
set_option maxRecDepth 100000
theorem fsets_skip (a0 : Int) (A1 : Option Addr) (c1 : Nat) (l1 : List (List Int)) (A2 : Option Addr) (c2 : Nat) (l2 : List Bool) (a3 : Int) (w : World) (hr1 : Kd.C (Kd.slice 3 (Kd.int .i64)) w A1 l1.length l1) (hc1 : l1.length ≤ c1) (hT : TabG w) (kf : Nat) (b : Bool) (hf : neonwrightlaw05_few.f kf l1 = some b)
    (hs : b = false ∨ (b = true ∧ (200 : Int) < (l2.length : Int)) ∨ (b = true ∧ ¬ (200 : Int) < (l2.length : Int) ∧ a3 = 3 ∧ 20 < a0 ∧ a0 ≤ 49)) :
    Calls Tryd.prog 11 #[.int .i64 a0, .slice A1 l1.length c1, .slice A2 l2.length c2, .int .i64 a3] w fun e w' => e = .returned (.bool true) ∧ Below w.heap.size w w' := by
  obtain ⟨ka, hka⟩ := neonwrightlaw05_alive.tells
  have HT := Aside0.mk hT
  have HKA := Aside0.mk hka
  have HR1 := Aside0.mk hr1
  have HC1 := Aside0.mk hc1
  have HF := Aside0.mk hf
  have HB := Aside0.mk (Below.refl w.heap.size w)
  clear hr1 hc1 hT hka hf
  rcases hs with rfl | ⟨rfl, h1⟩ | ⟨rfl, h1, rfl, h2, h3⟩
  · go_enter Tryd.func11, Tryd.ntmps11
    go_wp2_with (first | (go_at_call 16; (refine (neonwrightlaw05_few.calls kf A1 c1 l1 false _ (by repeat (first | exact HR1.out | (with_reducible refine Kd.C_drewN ?_ _) | (with_reducible refine Kd.C_drew ?_))) HC1.out HF.out).mono ?_); rintro e w' ⟨rfl, ⟨nd, rfl⟩⟩) | (go_at_call 17; (refine (neonwrightlaw05_alive.calls ka true _ (HT.out.below (by repeat (first | exact HB.out | apply pw_below_drewN | apply below_drew1))) HKA.out).mono ?_); rintro _ w4 ⟨rfl, hb⟩; have HB4 := Aside0.mk (below_step (by repeat (first | exact HB.out | apply pw_below_drewN | apply below_drew1)) hb); clear hb))
    go_ret
    exact ⟨rfl, HB4.out⟩
  · have d1 : decide ((200 : Int) < (l2.length : Int)) = true := decide_eq_true h1
    have d2 : decide (200 < l2.length) = true := decide_eq_true (by omega)
    clear h1
    go_enter Tryd.func11, Tryd.ntmps11
    go_wp2_with (first | (go_at_call 16; (refine (neonwrightlaw05_few.calls kf A1 c1 l1 true _ (by repeat (first | exact HR1.out | (with_reducible refine Kd.C_drewN ?_ _) | (with_reducible refine Kd.C_drew ?_))) HC1.out HF.out).mono ?_); rintro e w' ⟨rfl, ⟨nd, rfl⟩⟩) | (go_at_call 17; (refine (neonwrightlaw05_alive.calls ka true _ (HT.out.below (by repeat (first | exact HB.out | apply pw_below_drewN | apply below_drew1))) HKA.out).mono ?_); rintro _ w4 ⟨rfl, hb⟩; have HB4 := Aside0.mk (below_step (by repeat (first | exact HB.out | apply pw_below_drewN | apply below_drew1)) hb); clear hb))
    go_ret
    exact ⟨rfl, HB4.out⟩
  · have d1 : decide ((200 : Int) < (l2.length : Int)) = false := decide_eq_false h1
    have d2 : decide (200 < l2.length) = false := decide_eq_false (by omega)
    have d3 : decide (20 < a0) = true := decide_eq_true h2
    have d4 : decide (a0 ≤ 49) = true := decide_eq_true h3
    clear h1 h2 h3
    go_enter Tryd.func11, Tryd.ntmps11
    go_wp2_with (first | (go_at_call 16; (refine (neonwrightlaw05_few.calls kf A1 c1 l1 true _ (by repeat (first | exact HR1.out | (with_reducible refine Kd.C_drewN ?_ _) | (with_reducible refine Kd.C_drew ?_))) HC1.out HF.out).mono ?_); rintro e w' ⟨rfl, ⟨nd, rfl⟩⟩) | (go_at_call 17; (refine (neonwrightlaw05_alive.calls ka true _ (HT.out.below (by repeat (first | exact HB.out | apply pw_below_drewN | apply below_drew1))) HKA.out).mono ?_); rintro _ w4 ⟨rfl, hb⟩; have HB4 := Aside0.mk (below_step (by repeat (first | exact HB.out | apply pw_below_drewN | apply below_drew1)) hb); clear hb))
    go_ret
    exact ⟨rfl, HB4.out⟩
theorem fsets_main (a0 : Int) (A1 : Option Addr) (c1 : Nat) (l1 : List (List Int)) (A2 : Option Addr) (c2 : Nat) (l2 : List Bool) (a3 : Int) (w : World) (hr1 : Kd.C (Kd.slice 3 (Kd.int .i64)) w A1 l1.length l1) (hc1 : l1.length ≤ c1) (hr2 : Kd.C Kd.bool w A2 l2.length l2) (hc2 : l2.length ≤ c2) (hT : TabG w) (kf : Nat) (hf : neonwrightlaw05_few.f kf l1 = some true) (hrows : ∀ r ∈ l1, r.length ≤ 80)
    (h1 : ¬ (200 : Int) < (l2.length : Int)) (hs : ¬ a3 = 3 ∨ (a3 = 3 ∧ ¬ 20 < a0) ∨ (a3 = 3 ∧ 20 < a0 ∧ ¬ a0 ≤ 49)) :
    Calls Tryd.prog 11 #[.int .i64 a0, .slice A1 l1.length c1, .slice A2 l2.length c2, .int .i64 a3] w fun e w' => e = .returned (.bool true) ∧ Below w.heap.size w w' := by
  obtain ⟨ka, hka⟩ := neonwrightlaw05_alive.tells
  obtain ⟨n2, h2⟩ := (rSets_ev a0 l1 (fun r hr => by have := hrows r hr; omega) l2 a3).rounds
  have hsm := setsP_small a0 l1 l2 a3
  have h3 : find_Sets.f a0 l1 l2 a3 = some (setsP a0 l1 l2 a3) := rfl
  obtain ⟨⟨l, e⟩, hS⟩ : ∃ p, setsP a0 l1 l2 a3 = p := ⟨_, rfl⟩
  rw [hS] at h2 h3 hsm
  have hsm1 : l.length ≤ 2000 := hsm.1
  have hsm2 : ∀ r ∈ l, r.length ≤ 100 := hsm.2
  obtain ⟨kl, hkl⟩ := listsK l (by omega) (fun r hr => by have := hsm2 r hr; omega)
  have HT := Aside0.mk hT
  have HKA := Aside0.mk hka
  have HR1 := Aside0.mk hr1
  have HC1 := Aside0.mk hc1
  have HR2 := Aside0.mk hr2
  have HC2 := Aside0.mk hc2
  have HF := Aside0.mk hf
  have H2 := Aside0.mk h2
  have H3 := Aside0.mk h3
  have HL := Aside0.mk hsm1
  have HX := Aside0.mk (show ∀ i (hi : i < (l.map List.length).length), (l.map List.length)[i] ≤ 100 from fun i hi => by rw [List.getElem_map]; exact hsm2 _ (List.getElem_mem (by simpa using hi)))
  have HLm := Aside0.mk (show (l.map List.length).length = l.length from List.length_map _)
  have HKL := Aside0.mk hkl
  have ee1 : (e != e) = false := by simp
  have d1 : decide ((200 : Int) < (l2.length : Int)) = false := decide_eq_false h1
  have d2 : decide (200 < l2.length) = false := decide_eq_false (by omega)
  have HB := Aside0.mk (Below.refl w.heap.size w)
  have hg : ∃ b3 b20 b49 : Bool, (a3 == 3) = b3 ∧ decide (20 < a0) = b20 ∧ decide (a0 ≤ 49) = b49 ∧ (b3 = false ∨ (b3 = true ∧ b20 = false) ∨ (b3 = true ∧ b20 = true ∧ b49 = false)) := by
    refine ⟨_, _, _, rfl, rfl, rfl, ?_⟩
    rcases hs with h | ⟨h, h4⟩ | ⟨h, h4, h5⟩
    · exact .inl (beq_eq_false_iff_ne.2 h)
    · exact .inr (.inl ⟨beq_iff_eq.2 h, decide_eq_false h4⟩)
    · exact .inr (.inr ⟨beq_iff_eq.2 h, decide_eq_true h4, decide_eq_false h5⟩)
  obtain ⟨b3, b20, b49, g3, g20, g49, hg⟩ := hg
  clear hr1 hc1 hr2 hc2 hT hka hf h1 h2 h3 hsm hsm1 hsm2 hkl hrows hs hS
  rcases hg with rfl | ⟨rfl, rfl⟩ | ⟨rfl, rfl, rfl⟩
  all_goals
    go_enter Tryd.func11, Tryd.ntmps11
    go_wp2_with (first | (go_at_call 16; (refine (neonwrightlaw05_few.calls kf A1 c1 l1 true _ (by repeat (first | exact HR1.out | (with_reducible refine Kd.C_drewN ?_ _) | (with_reducible refine Kd.C_drew ?_))) HC1.out HF.out).mono ?_); rintro _ w' ⟨rfl, ⟨nd, rfl⟩⟩) | (go_at_call 36; (refine (neonwrightref05_Sets.calls n2 a0 A1 c1 l1 A2 c2 l2 a3 l e _ (by repeat (first | exact HR1.out | (with_reducible refine Kd.C_drewN ?_ _) | (with_reducible refine Kd.C_drew ?_))) HC1.out (by repeat (first | exact HR2.out | (with_reducible refine Kd.C_drewN ?_ _) | (with_reducible refine Kd.C_drew ?_))) HC2.out H2.out).mono ?_); rintro _ w1 ⟨vb, rfl, hS, hb⟩; obtain ⟨Ab, cb, rfl⟩ := Kd.N_slice hS; have HCb := Aside0.mk (Kd.N_reads' hS); have HB1 := Aside0.mk (below_step (by repeat (first | exact HB.out | apply pw_below_drewN | apply below_drew1)) hb); clear hS hb))
    have HLb := Aside0.mk HCb.out.2.1
    have HC0 := Aside0.mk HCb.out.2.2
    clear HCb HB g3 g20 g49
    go_loopw [11] (fun v11 w' => ∃ i : Nat, v11 = .int .i64 (i : Int) ∧ Aside0 (i ≤ 2) ∧ Aside0 (Kd.C (Kd.slice 3 (Kd.int .i64)) w' Ab l.length l) ∧ Aside0 (Below w.heap.size w w')) (fun v _ => 2 - (intOf v).toNat)
    case atStart => exact ⟨0, rfl, ⟨by decide⟩, HC0, HB1⟩
    case round =>
      clear HC0 HB1
      obtain ⟨i, rfl, Hi, HC, HB⟩ := hrel
      by_cases ci : (i : Int) < 2
      · have c1' : decide ((i : Int) < 2) = true := decide_eq_true ci
        have Hci := Aside0.mk (show i < 2 by omega)
        clear ci
        generalize wr = W0 at *
        go_wp2_with (first | (go_at_call 37; (refine (find_Sets.calls a0 A1 c1 l1 A2 c2 l2 a3 l e _ (Kd.C_below HR1.out HB.out) HC1.out (Kd.C_below HR2.out HB.out) HC2.out H3.out).mono ?_); rintro _ w2 ⟨va, rfl, hS, hb⟩; obtain ⟨Aa, ca, rfl⟩ := Kd.S_slice hS; have HCa := Aside0.mk (Kd.S_reads' hS); have HHa := Aside0.mk (show Held w2 W0.heap.size (.slice Aa l.length ca) (l.map List.length) from ⟨l, rfl, Kd.S_R hS⟩); have HB2 := Aside0.mk hb; clear hS hb) | (go_at_call 28; (refine (neonwrightlaw05_lists.calls kl Aa ca l Ab cb l true _ (by repeat (first | exact HCa.out.2.2 | (with_reducible refine Kd.C_drewN ?_ _) | (with_reducible refine Kd.C_drew ?_))) HCa.out.2.1 (by repeat (first | exact (Kd.C_below HC.out HB2.out) | (with_reducible refine Kd.C_drewN ?_ _) | (with_reducible refine Kd.C_drew ?_))) HLb.out HKL.out).mono ?_); rintro _ w' ⟨rfl, ⟨nd, rfl⟩⟩))
        go_loopw [14] (fun v14 w' => ∃ j : Nat, v14 = .int .i64 (j : Int) ∧ Aside0 (j ≤ l.length) ∧ Aside0 (Held w' W0.heap.size (.slice Aa l.length ca) (l.map List.length)) ∧ Aside0 (Below W0.heap.size W0 w')) (fun v _ => l.length - (intOf v).toNat)
        case atStart => exact ⟨0, rfl, ⟨Nat.zero_le _⟩, ⟨by first | exact HHa.out | exact HHa.out.drewN _⟩, ⟨by repeat (first | exact HB2.out | apply pw_below_drewN | apply below_drew1)⟩⟩
        case round =>
          clear HCa HHa HB2
          obtain ⟨j, rfl, Hj, HH, HB2⟩ := hrel
          by_cases cj : (j : Int) < (l.length : Int)
          · have c2' : decide ((j : Int) < (l.length : Int)) = true := decide_eq_true cj
            have c2'' : decide (j < l.length) = true := decide_eq_true (by omega)
            have Hcj := Aside0.mk (show j < l.length by omega)
            have hjl : j < (l.map List.length).length := by rw [HLm.out]; omega
            have HXj := Aside0.mk (HX.out j hjl)
            obtain ⟨Lj, hLj⟩ : ∃ Lj, (l.map List.length)[j] = Lj := ⟨_, rfl⟩
            rw [hLj] at HXj
            have HLj := Aside0.mk hLj
            have q1 := eq_true cj
            have q2 := eq_true (show j < l.length by omega)
            have q3 := eq_true (show 0 ≤ (j : Int) by omega)
            clear cj hLj
            go_wp2
            go_loopw [15] (fun v15 w' => ∃ t : Nat, v15 = .int .i64 (t : Int) ∧ Aside0 (t ≤ Lj) ∧ Aside0 (Held w' W0.heap.size (.slice Aa l.length ca) (l.map List.length)) ∧ Aside0 (Below W0.heap.size W0 w')) (fun v _ => Lj - (intOf v).toNat)
            case atStart => exact ⟨0, rfl, ⟨Nat.zero_le _⟩, HH, HB2⟩
            case round =>
              clear HH HB2
              obtain ⟨t, rfl, Ht, HH, HB2⟩ := hrel
              obtain ⟨ad, cap, A0, c0, ev, hcell, hpk⟩ := HH.out.poke j (by rw [HLm.out]; exact Hcj.out)
              rw [HLm.out] at ev
              injection ev with ev1 ev2 ev3
              subst ev1 ev3
              rw [HLj.out] at hcell hpk
              by_cases ck : (t : Int) < (Lj : Int)
              · have c3' : decide ((t : Int) < (Lj : Int)) = true := decide_eq_true ck
                have c3'' : decide (t < Lj) = true := decide_eq_true (by omega)
                have Hck := Aside0.mk (show t < Lj by omega)
                have q4 := eq_true ck
                have q5 := eq_true (show t < Lj by omega)
                have q6 := eq_true (show 0 ≤ (t : Int) by omega)
                obtain ⟨ad0, y, rfl, hy, hfz, hset⟩ := hpk t (by omega)
                have HSet := Aside0.mk hset
                clear hpk hset ck HH
                go_wp2
                go_roundw
                case rel => exact ⟨t + 1, by rw [wrap1 (by have := Hck.out; have := HXj.out; omega)], ⟨by have := Hck.out; omega⟩, ⟨(HSet.out _).1⟩, ⟨(HSet.out _).2 _ HB2.out⟩⟩
                case measure => rw [wrap1 (by have := Hck.out; have := HXj.out; omega)]; have := Hck.out; simp [intOf]; omega
              · have c3' : decide ((t : Int) < (Lj : Int)) = false := decide_eq_false ck
                have c3'' : decide (t < Lj) = false := decide_eq_false (by omega)
                clear ck hpk
                go_wp2
                go_roundw
                case rel => exact ⟨j + 1, by rw [wrap1 (by have := Hcj.out; have := HL.out; omega)], ⟨by have := Hcj.out; omega⟩, HH, HB2⟩
                case measure => rw [wrap1 (by have := Hcj.out; have := HL.out; omega)]; have := Hcj.out; simp [intOf]; omega
          · have c2' : decide ((j : Int) < (l.length : Int)) = false := decide_eq_false cj
            have c2'' : decide (j < l.length) = false := decide_eq_false (by omega)
            clear cj
            go_wp2
            go_roundw
            case rel => exact ⟨i + 1, by rw [wrap1 (by have := Hci.out; omega)], ⟨by have := Hci.out; omega⟩, ⟨Kd.C_below HC.out HB2.out⟩, ⟨below_step HB.out HB2.out⟩⟩
            case measure => rw [wrap1 (by have := Hci.out; omega)]; have := Hci.out; simp [intOf]; omega
      · have c1' : decide ((i : Int) < 2) = false := decide_eq_false ci
        clear ci
        go_wp2_with (first | (go_at_call 17; (refine (neonwrightlaw05_alive.calls ka true _ (HT.out.below (by repeat (first | exact HB.out | apply pw_below_drewN | apply below_drew1))) HKA.out).mono ?_); rintro _ w4 ⟨rfl, hb⟩; have HB4 := Aside0.mk (below_step (by repeat (first | exact HB.out | apply pw_below_drewN | apply below_drew1)) hb); clear hb))
        go_ret
        exact ⟨rfl, HB4.out⟩
theorem neonwrightlaw05_FindSets.calls (k : Nat) (a0 : Int) (A1 : Option Addr) (c1 : Nat) (l1 : List (List Int)) (A2 : Option Addr) (c2 : Nat) (l2 : List Bool) (a3 : Int) (r : Bool) (w : World) (hr1 : Kd.C (Kd.slice 3 (Kd.int .i64)) w A1 l1.length l1) (hc1 : l1.length ≤ c1) (hr2 : Kd.C Kd.bool w A2 l2.length l2) (hc2 : l2.length ≤ c2) (hT : TabG w) (h : neonwrightlaw05_FindSets.f k a0 l1 l2 a3 = some r) :
    Calls Tryd.prog 11 #[.int .i64 a0, .slice A1 l1.length c1, .slice A2 l2.length c2, .int .i64 a3] w fun e w' => e = .returned (.bool r) ∧ Below w.heap.size w w' := by
  obtain rfl : true = r := Option.some.inj h
  obtain ⟨b, hb, hs⟩ := few_ev l1
  obtain ⟨kf, hf⟩ := hb.rounds
  cases b with
  | false => exact fsets_skip a0 A1 c1 l1 A2 c2 l2 a3 w hr1 hc1 hT kf false hf (.inl rfl)
  | true =>
    by_cases h1 : (200 : Int) < (l2.length : Int)
    · exact fsets_skip a0 A1 c1 l1 A2 c2 l2 a3 w hr1 hc1 hT kf true hf (.inr (.inl ⟨rfl, h1⟩))
    · by_cases h2 : a3 = 3 ∧ 20 < a0 ∧ a0 ≤ 49
      · exact fsets_skip a0 A1 c1 l1 A2 c2 l2 a3 w hr1 hc1 hT kf true hf (.inr (.inr ⟨rfl, h1, h2.1, h2.2.1, h2.2.2⟩))
      · exact fsets_main a0 A1 c1 l1 A2 c2 l2 a3 w hr1 hc1 hr2 hc2 hT kf hf (hs rfl).2 h1 (by omega)
end Go.Proofs.YtglajokjiphafaaDoor.P
