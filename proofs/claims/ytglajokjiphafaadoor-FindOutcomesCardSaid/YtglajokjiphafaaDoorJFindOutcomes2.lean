/- Several texts of this session in one file, in build order: Pf19, DRef, DPure0, DOutR. -/
import Derived.Test.YtglajokjiphafaaDoorJB1
import Derived.Test.YtglajokjiphafaaDoorJFindOutcomes1
import Derived.Test.YtglajokjiphafaaDoorJB2
namespace Go.Proofs.YtglajokjiphafaaDoor.P
open Go.RowKit Go.Proofs.YtglajokjiphafaaDoorW.PrintWords Go.Proofs.YtglajokjiphafaaDoorW.PrintLast Go.Proofs.YtglajokjiphafaaDoorW.PrintMore
attribute [local go_sem] max2_int min2_int max_two min_two max_three min_three max_four min_four   -- for this text's walks alone
set_option linter.unusedVariables false
set_option linter.unusedSimpArgs false

/-! ### neonwrightref05_Hidden: function 19 -/
mutual
def neonwrightref05_Hidden.j0 : Nat → Int → List (List Int) → Int → Bool → Option (List Int × Int)
  | 0, _, _, _, _ => none
  | k + 1, x0, x1, x2, x25 => if x25 = true then (some (([] : List Int), 2)) else (neonwrightref05_Hidden.l0 k x0 x1 x2 0)
def neonwrightref05_Hidden.l0 : Nat → Int → List (List Int) → Int → Int → Option (List Int × Int)
  | 0, _, _, _, _ => none
  | k + 1, x0, x1, x2, x9 => if x9 < x0 then (neonwrightref05_Hidden.l1 k x0 x1 x2 x9 0) else (some (([] : List Int), 0))
def neonwrightref05_Hidden.l1 : Nat → Int → List (List Int) → Int → Int → Int → Option (List Int × Int)
  | 0, _, _, _, _, _ => none
  | k + 1, x0, x1, x2, x9, x10 => if x10 ≤ x2 then ((neonwrightref05_chosen.f k x0 x10 0 x9).bind fun t147 => (neonwrightref05_Hidden.l2 k x0 x1 x2 x9 x10 t147 0)) else (neonwrightref05_Hidden.l0 k x0 x1 x2 (wrap64 (x9 + 1)))
def neonwrightref05_Hidden.l2 : Nat → Int → List (List Int) → Int → Int → Int → List (List Int) → Int → Option (List Int × Int)
  | 0, _, _, _, _, _, _, _ => none
  | k + 1, x0, x1, x2, x9, x10, x11, x12 => if x12 < (x11.length : Int) then (if 0 ≤ x12 then ((neonwrightref05_hidden.f k x1 x9 (rd_L1 x11 x12)).bind fun t151 => (if t151 = true then ((some (([x9] : List Int) : List Int)).bind fun y152 => (if y152.length + (rd_L1 x11 x12).length < 17592186044416 then (some ((y152 ++ (rd_L1 x11 x12)), 0)) else (none))) else (neonwrightref05_Hidden.l2 k x0 x1 x2 x9 x10 x11 (wrap64 (x12 + 1))))) else (none)) else (neonwrightref05_Hidden.l1 k x0 x1 x2 x9 (wrap64 (x10 + 1)))
end
def neonwrightref05_Hidden.f (k : Nat) (a0 : Int) (l1 : List (List Int)) (a2 : Int) : Option (List Int × Int) := (neonwrightref05_Design.f k a0 l1).bind fun t146 => (if t146 = 0 then (if a2 < 0 then (neonwrightref05_Hidden.j0 k a0 l1 a2 true) else (neonwrightref05_Hidden.j0 k a0 l1 a2 (decide (a2 > 3)))) else (some (([] : List Int), t146)))
theorem neonwrightref05_Hidden.mono_l : ∀ k, (∀ y0 y1 y2 y3, LeO (neonwrightref05_Hidden.j0 k y0 y1 y2 y3) (neonwrightref05_Hidden.j0 (k + 1) y0 y1 y2 y3)) ∧ (∀ y0 y1 y2 y3, LeO (neonwrightref05_Hidden.l0 k y0 y1 y2 y3) (neonwrightref05_Hidden.l0 (k + 1) y0 y1 y2 y3)) ∧ (∀ y0 y1 y2 y3 y4, LeO (neonwrightref05_Hidden.l1 k y0 y1 y2 y3 y4) (neonwrightref05_Hidden.l1 (k + 1) y0 y1 y2 y3 y4)) ∧ (∀ y0 y1 y2 y3 y4 y5 y6, LeO (neonwrightref05_Hidden.l2 k y0 y1 y2 y3 y4 y5 y6) (neonwrightref05_Hidden.l2 (k + 1) y0 y1 y2 y3 y4 y5 y6))
  | 0 => ⟨fun _ _ _ _ r h => by simp [neonwrightref05_Hidden.j0] at h, fun _ _ _ _ r h => by simp [neonwrightref05_Hidden.l0] at h, fun _ _ _ _ _ r h => by simp [neonwrightref05_Hidden.l1] at h, fun _ _ _ _ _ _ _ r h => by simp [neonwrightref05_Hidden.l2] at h⟩
  | k + 1 => by
    obtain ⟨ih0, ih1, ih2, ih3⟩ := neonwrightref05_Hidden.mono_l k
    refine ⟨?_, ?_, ?_, ?_⟩
    · intro y0 y1 y2 y3
      unfold neonwrightref05_Hidden.j0
      repeat' first
      | (with_reducible exact ih0 _ _ _ _)
      | (with_reducible exact ih1 _ _ _ _)
      | (with_reducible exact ih2 _ _ _ _ _)
      | (with_reducible exact ih3 _ _ _ _ _ _ _)
      | (with_reducible exact neonwrightref05_Design.mono _ _ _)
      | (with_reducible exact neonwrightref05_chosen.mono _ _ _ _ _)
      | (with_reducible exact neonwrightref05_hidden.mono _ _ _ _)
      | (with_reducible exact LeO.refl _)
      | (with_reducible exact LeO.none _)
      | (with_reducible refine LeO.ite ?_ ?_)
      | (with_reducible refine LeO.bind ?_ (fun _ => ?_))
      | exact ih0 _ _ _ _
      | exact ih1 _ _ _ _
      | exact ih2 _ _ _ _ _
      | exact ih3 _ _ _ _ _ _ _
      | exact neonwrightref05_Design.mono _ _ _
      | exact neonwrightref05_chosen.mono _ _ _ _ _
      | exact neonwrightref05_hidden.mono _ _ _ _
      | exact LeO.none _
      | refine LeO.ite ?_ ?_
      | refine LeO.bind ?_ (fun _ => ?_)
    · intro y0 y1 y2 y3
      unfold neonwrightref05_Hidden.l0
      repeat' first
      | (with_reducible exact ih0 _ _ _ _)
      | (with_reducible exact ih1 _ _ _ _)
      | (with_reducible exact ih2 _ _ _ _ _)
      | (with_reducible exact ih3 _ _ _ _ _ _ _)
      | (with_reducible exact neonwrightref05_Design.mono _ _ _)
      | (with_reducible exact neonwrightref05_chosen.mono _ _ _ _ _)
      | (with_reducible exact neonwrightref05_hidden.mono _ _ _ _)
      | (with_reducible exact LeO.refl _)
      | (with_reducible exact LeO.none _)
      | (with_reducible refine LeO.ite ?_ ?_)
      | (with_reducible refine LeO.bind ?_ (fun _ => ?_))
      | exact ih0 _ _ _ _
      | exact ih1 _ _ _ _
      | exact ih2 _ _ _ _ _
      | exact ih3 _ _ _ _ _ _ _
      | exact neonwrightref05_Design.mono _ _ _
      | exact neonwrightref05_chosen.mono _ _ _ _ _
      | exact neonwrightref05_hidden.mono _ _ _ _
      | exact LeO.none _
      | refine LeO.ite ?_ ?_
      | refine LeO.bind ?_ (fun _ => ?_)
    · intro y0 y1 y2 y3 y4
      unfold neonwrightref05_Hidden.l1
      repeat' first
      | (with_reducible exact ih0 _ _ _ _)
      | (with_reducible exact ih1 _ _ _ _)
      | (with_reducible exact ih2 _ _ _ _ _)
      | (with_reducible exact ih3 _ _ _ _ _ _ _)
      | (with_reducible exact neonwrightref05_Design.mono _ _ _)
      | (with_reducible exact neonwrightref05_chosen.mono _ _ _ _ _)
      | (with_reducible exact neonwrightref05_hidden.mono _ _ _ _)
      | (with_reducible exact LeO.refl _)
      | (with_reducible exact LeO.none _)
      | (with_reducible refine LeO.ite ?_ ?_)
      | (with_reducible refine LeO.bind ?_ (fun _ => ?_))
      | exact ih0 _ _ _ _
      | exact ih1 _ _ _ _
      | exact ih2 _ _ _ _ _
      | exact ih3 _ _ _ _ _ _ _
      | exact neonwrightref05_Design.mono _ _ _
      | exact neonwrightref05_chosen.mono _ _ _ _ _
      | exact neonwrightref05_hidden.mono _ _ _ _
      | exact LeO.none _
      | refine LeO.ite ?_ ?_
      | refine LeO.bind ?_ (fun _ => ?_)
    · intro y0 y1 y2 y3 y4 y5 y6
      unfold neonwrightref05_Hidden.l2
      repeat' first
      | (with_reducible exact ih0 _ _ _ _)
      | (with_reducible exact ih1 _ _ _ _)
      | (with_reducible exact ih2 _ _ _ _ _)
      | (with_reducible exact ih3 _ _ _ _ _ _ _)
      | (with_reducible exact neonwrightref05_Design.mono _ _ _)
      | (with_reducible exact neonwrightref05_chosen.mono _ _ _ _ _)
      | (with_reducible exact neonwrightref05_hidden.mono _ _ _ _)
      | (with_reducible exact LeO.refl _)
      | (with_reducible exact LeO.none _)
      | (with_reducible refine LeO.ite ?_ ?_)
      | (with_reducible refine LeO.bind ?_ (fun _ => ?_))
      | exact ih0 _ _ _ _
      | exact ih1 _ _ _ _
      | exact ih2 _ _ _ _ _
      | exact ih3 _ _ _ _ _ _ _
      | exact neonwrightref05_Design.mono _ _ _
      | exact neonwrightref05_chosen.mono _ _ _ _ _
      | exact neonwrightref05_hidden.mono _ _ _ _
      | exact LeO.none _
      | refine LeO.ite ?_ ?_
      | refine LeO.bind ?_ (fun _ => ?_)
theorem neonwrightref05_Hidden.mono : ∀ a0 a1 a2 k, LeO (neonwrightref05_Hidden.f k a0 a1 a2) (neonwrightref05_Hidden.f (k + 1) a0 a1 a2) := by
  intro a0 a1 a2 k
  obtain ⟨ih0, ih1, ih2, ih3⟩ := neonwrightref05_Hidden.mono_l k
  unfold neonwrightref05_Hidden.f
  repeat' first
      | (with_reducible exact ih0 _ _ _ _)
      | (with_reducible exact ih1 _ _ _ _)
      | (with_reducible exact ih2 _ _ _ _ _)
      | (with_reducible exact ih3 _ _ _ _ _ _ _)
      | (with_reducible exact neonwrightref05_Design.mono _ _ _)
      | (with_reducible exact neonwrightref05_chosen.mono _ _ _ _ _)
      | (with_reducible exact neonwrightref05_hidden.mono _ _ _ _)
      | (with_reducible exact LeO.refl _)
      | (with_reducible exact LeO.none _)
      | (with_reducible refine LeO.ite ?_ ?_)
      | (with_reducible refine LeO.bind ?_ (fun _ => ?_))
      | exact ih0 _ _ _ _
      | exact ih1 _ _ _ _
      | exact ih2 _ _ _ _ _
      | exact ih3 _ _ _ _ _ _ _
      | exact neonwrightref05_Design.mono _ _ _
      | exact neonwrightref05_chosen.mono _ _ _ _ _
      | exact neonwrightref05_hidden.mono _ _ _ _
      | exact LeO.none _
      | refine LeO.ite ?_ ?_
      | refine LeO.bind ?_ (fun _ => ?_)
set_option maxHeartbeats 8000000 in
set_option maxRecDepth 100000 in
theorem neonwrightref05_Hidden.calls (k : Nat) (a0 : Int) (A1 : Option Addr) (c1 : Nat) (l1 : List (List Int)) (a2 : Int) (r1 : List Int) (r2 : Int) (w : World) (hr1 : Kd.C (Kd.slice 3 (Kd.int .i64)) w A1 l1.length l1) (hc1 : l1.length ≤ c1) (h : neonwrightref05_Hidden.f k a0 l1 a2 = some (r1, r2)) :
    Calls Tryd.prog 19 #[.int .i64 a0, .slice A1 l1.length c1, .int .i64 a2] w fun e w' => ∃ v0_ : Value, e = .returned (.tuple #[v0_, .int .i64 r2]) ∧ Kd.R (Kd.int .i64) 3 w' w.heap.size (fun _ => True) v0_ r1 ∧ Below w.heap.size w w' := by
  have HR1 := Aside0.mk hr1
  have HC1 := Aside0.mk hc1
  clear hr1 hc1
  have HB := Aside0.mk (Below.refl w.heap.size w)
  have H : ((neonwrightref05_Design.f k a0 l1).bind fun t146 => (if t146 = 0 then (if a2 < 0 then (neonwrightref05_Hidden.j0 k a0 l1 a2 true) else (neonwrightref05_Hidden.j0 k a0 l1 a2 (decide (a2 > 3)))) else (some (([] : List Int), t146)))) = some (r1, r2) := h
  clear h
  replace H := Option.bind_eq_some_iff.mp H
  obtain ⟨t146, A40, H⟩ := H
  replace H : (if t146 = 0 then (if a2 < 0 then (neonwrightref05_Hidden.j0 k a0 l1 a2 true) else (neonwrightref05_Hidden.j0 k a0 l1 a2 (decide (a2 > 3)))) else (some (([] : List Int), t146))) = some (r1, r2) := H
  have A4 := Aside0.mk A40
  clear A40
  by_cases c5 : t146 = 0
  · rw [if_pos c5] at H
    have c5b0 : (t146 == 0) = true := beq_iff_eq.mpr c5
    have c5b1 : (t146 != 0) = false := bne_eq_false_iff_eq.mpr c5
    clear c5
    have HC6 := Aside0.mk H
    clear H
    go_enter Tryd.func19, Tryd.ntmps19
    go_upto_region 4 with (first | ((with_reducible refine gate_callee (f := 49) rfl ?_); refine goesL_ (some 16) rfl rfl Tryd.func49 (by kernel_rfl) rfl #[.int .i64 a0, .slice A1 l1.length c1] rfl (by (try simp only [List.map_toArray, List.map_cons, List.map_nil]); first | done | rfl | (simp only [List.length_drop, List.length_take]; rfl)) ?_; (with_reducible refine (neonwrightref05_Design.calls k a0 _ _ l1 t146 _ ?side1 ?side2 A4.out).mono ?_); (case side1 => repeat (first | exact HR1.out | (with_reducible refine Kd.C_alloc ?_ _) | (with_reducible refine Kd.C_drewN ?_ _) | (with_reducible refine Kd.C_drew ?_))); (case side2 => exact HC1.out); rintro e w' ⟨rfl, ⟨nd, rfl⟩⟩; refine ⟨_, rfl, ?_⟩))
    (try simp only [Act.put, List.setIfInBounds_toArray, List.set_cons_zero, List.set_cons_succ])
    go_cut [25] (fun v25 wc => ∃ (kq : Nat) (x25_5 : Bool), v25 = .bool x25_5 ∧ Aside0 (neonwrightref05_Hidden.j0 kq a0 l1 a2 x25_5 = some (r1, r2)) ∧ Aside0 (kq ≤ k) ∧ Aside0 (Below w.heap.size w wc))
    case first =>
      have H := HC6.out
      clear HC6
      by_cases c7 : a2 < 0
      · rw [if_pos c7] at H
        have c7b0 : decide (a2 < 0) = true := decide_eq_true c7
        clear c7
        (first | rw [c7b0] | (simp only [i64_w, i32_w]; rw [c7b0]) | skip)
        have H' := Aside0.mk H
        clear H
        go_wp2
        go_meet
        case rel => exact ⟨_, (true), (by first | rfl | (simp; done) | (simp [*]; done)), H', ⟨by first | omega | exact Nat.le_refl _⟩, ⟨by repeat (first | (with_reducible first | exact HB.out | apply below_alloc | apply pw_below_drewN | apply below_drew1) | exact HB.out)⟩⟩
      · rw [if_neg c7] at H
        have c7b0 : decide (a2 < 0) = false := decide_eq_false c7
        clear c7
        (first | rw [c7b0] | (simp only [i64_w, i32_w]; rw [c7b0]) | skip)
        have H' := Aside0.mk H
        clear H
        go_wp2
        go_meet
        case rel => exact ⟨_, (decide (a2 > 3)), (by first | rfl | (simp; done) | (simp [*]; done)), H', ⟨by first | omega | exact Nat.le_refl _⟩, ⟨by repeat (first | (with_reducible first | exact HB.out | apply below_alloc | apply pw_below_drewN | apply below_drew1) | exact HB.out)⟩⟩
    case rest =>
      clear HC6
      try clear c1
      try clear p2
      try clear c4
      try clear c5
      try clear c5b0
      try clear c5b1
      try clear c7
      try clear c7b0
      obtain ⟨kq, x25_5, rfl, HA, HJ5, HB⟩ := hcut
      cases kq with
      | zero => exact absurd HA.out (by simp [neonwrightref05_Hidden.j0])
      | succ kj5 =>
        have H := HA.out
        clear HA
        simp only [neonwrightref05_Hidden.j0] at H
        by_cases c8 : x25_5 = true
        · subst c8
          have H1 : (some (([] : List Int), 2)) = some (r1, r2) := by rw [if_pos rfl] at H; exact H
          clear H
          have H := H1
          clear H1
          simp only [Option.some.injEq, Prod.mk.injEq] at H
          obtain ⟨rfl, rfl⟩ := H
          go_wp2
          go_ret2
          exact ⟨_, by first | rfl | (simp [errW_none, errW_some] <;> rfl) | (simp [*, errW_none, errW_some] <;> rfl), by first | exact Kd.R_nil _ _ _ _ _ | exact Kd.N_nil _ _ _ _ _ | exact Kd.V_nil _ _ _ _ _ | exact Kd.Q_nil _ _ _ _ _ | exact Kd.S_nil _ _ _ _ _, by repeat (first | (with_reducible first | exact HB.out | apply below_alloc | apply pw_below_drewN | apply below_drew1) | exact HB.out)⟩
        · replace c8 := Bool.eq_false_iff.mpr c8
          subst c8
          have H1 : (neonwrightref05_Hidden.l0 kj5 a0 l1 a2 0) = some (r1, r2) := by rw [if_neg (show ¬ (false = true) by decide)] at H; exact H
          clear H
          have H := H1
          clear H1
          have H' := Aside0.mk H
          clear H
          go_wp2
          go_loopg [9] kj5 (fun kq v9 w' => ∃ (x9_2 : Int), v9 = .int .i64 x9_2 ∧ Aside0 (neonwrightref05_Hidden.l0 kq a0 l1 a2 x9_2 = some (r1, r2)) ∧ Aside0 (kq ≤ kj5) ∧ Aside0 (Below w.heap.size w w'))
          case atStart => exact ⟨(0), (by first | rfl | (simp; done) | (simp [*]; done)), H', ⟨Nat.le_refl _⟩, ⟨by repeat (first | (with_reducible first | exact HB.out | apply below_alloc | apply pw_below_drewN | apply below_drew1) | exact HB.out)⟩⟩
          case round =>
            clear H'
            try clear c1
            try clear p2
            try clear c4
            try clear c5
            try clear c5b0
            try clear c5b1
            try clear c7
            try clear c7b0
            try clear c8
            try clear p2
            obtain ⟨x9_2, rfl, HA, HK2, HB⟩ := hrel
            cases gk with
            | zero => exact absurd HA.out (by simp [neonwrightref05_Hidden.l0])
            | succ k2 =>
              have H := HA.out
              clear HA
              simp only [neonwrightref05_Hidden.l0] at H
              by_cases c9 : x9_2 < a0
              · rw [if_pos c9] at H
                have c9b0 : decide (x9_2 < a0) = true := decide_eq_true c9
                clear c9
                have H' := Aside0.mk H
                clear H
                go_wp2
                go_loopg [10] k2 (fun kq v10 w' => ∃ (x10_3 : Int), v10 = .int .i64 x10_3 ∧ Aside0 (neonwrightref05_Hidden.l1 kq a0 l1 a2 x9_2 x10_3 = some (r1, r2)) ∧ Aside0 (kq ≤ k2) ∧ Aside0 (Below w.heap.size w w'))
                case atStart => exact ⟨(0), (by first | rfl | (simp; done) | (simp [*]; done)), H', ⟨Nat.le_refl _⟩, ⟨by repeat (first | (with_reducible first | exact HB.out | apply below_alloc | apply pw_below_drewN | apply below_drew1) | exact HB.out)⟩⟩
                case round =>
                  clear H'
                  try clear c1
                  try clear p2
                  try clear c4
                  try clear c5
                  try clear c5b0
                  try clear c5b1
                  try clear c7
                  try clear c7b0
                  try clear c8
                  try clear c9
                  try clear c9b0
                  try clear p2
                  obtain ⟨x10_3, rfl, HA, HK3, HB⟩ := hrel
                  cases gk with
                  | zero => exact absurd HA.out (by simp [neonwrightref05_Hidden.l1])
                  | succ k3 =>
                    have H := HA.out
                    clear HA
                    simp only [neonwrightref05_Hidden.l1] at H
                    by_cases c10 : x10_3 ≤ a2
                    · rw [if_pos c10] at H
                      have c10b0 : decide (x10_3 ≤ a2) = true := decide_eq_true c10
                      clear c10
                      replace H := Option.bind_eq_some_iff.mp H
                      obtain ⟨t147, A110, H⟩ := H
                      replace H : (neonwrightref05_Hidden.l2 k3 a0 l1 a2 x9_2 x10_3 t147 0) = some (r1, r2) := H
                      have A11 := Aside0.mk A110
                      clear A110
                      have H' := Aside0.mk H
                      clear H
                      go_wp2_with (first | ((with_reducible refine gate_callee (f := 50) rfl ?_); refine goesL_ (some 39) rfl rfl Tryd.func50 (by kernel_rfl) rfl #[.int .i64 a0, .int .i64 x10_3, .int .i64 0, .int .i64 x9_2] rfl (by (try simp only [List.map_toArray, List.map_cons, List.map_nil]); first | done | rfl | (simp only [List.length_drop, List.length_take]; rfl)) ?_; (with_reducible refine (neonwrightref05_chosen.calls k3 a0 x10_3 0 x9_2 t147 _ A11.out).mono ?_); rintro e w12 ⟨v148, rfl, ho0, hb⟩; refine ⟨_, rfl, ?_⟩; have n0_ := Aside0.mk (Kd.S_lower ho0 (below_size (by repeat (first | (with_reducible first | exact HB.out | apply below_alloc | apply pw_below_drewN | apply below_drew1) | exact HB.out)))); have n1_ := Aside0.mk (below_step (by repeat (first | (with_reducible first | exact HB.out | apply below_alloc | apply pw_below_drewN | apply below_drew1) | exact HB.out)) hb); clear HB; have HO149 := n0_; have HB := n1_; clear n0_ n1_; (try clear hb); (try clear hb2); (try clear hk); (try clear hi); (try clear ho0)))
                      go_loopg [12] k3 (fun kq v12 w' => ∃ (x12_4 : Int), v12 = .int .i64 x12_4 ∧ Aside0 (neonwrightref05_Hidden.l2 kq a0 l1 a2 x9_2 x10_3 t147 x12_4 = some (r1, r2)) ∧ Aside0 (kq ≤ k3) ∧ Aside0 (Kd.S (Kd.slice 3 (Kd.int .i64)) 25 w' w.heap.size (fun _ => True) v148 t147) ∧ Aside0 (Below w.heap.size w w'))
                      case atStart => exact ⟨(0), (by first | rfl | (simp; done) | (simp [*]; done)), H', ⟨Nat.le_refl _⟩, ⟨by (with_reducible repeat (first | apply Kd.S_alloc | apply Kd.S_drewN | apply Kd.S_drew)); first | exact HO149.out | exact Kd.R_mono HO149.out (fun k_ h_ => ne_own_len h_)⟩, ⟨by repeat (first | (with_reducible first | exact HB.out | apply below_alloc | apply pw_below_drewN | apply below_drew1) | exact HB.out)⟩⟩
                      case round =>
                        clear H'
                        try clear c1
                        try clear p2
                        try clear c4
                        try clear c5
                        try clear c5b0
                        try clear c5b1
                        try clear c7
                        try clear c7b0
                        try clear c8
                        try clear c9
                        try clear c9b0
                        try clear c10
                        try clear c10b0
                        try clear p2
                        obtain ⟨x12_4, rfl, HA, HK4, HO_11, HB⟩ := hrel
                        cases gk with
                        | zero => exact absurd HA.out (by simp [neonwrightref05_Hidden.l2])
                        | succ k4 =>
                          have H := HA.out
                          clear HA
                          simp only [neonwrightref05_Hidden.l2] at H
                          by_cases c13 : x12_4 < (t147.length : Int)
                          · rw [if_pos c13] at H
                            have c13b0 : decide (x12_4 < (t147.length : Int)) = true := decide_eq_true c13
                            clear c13
                            by_cases c14 : 0 ≤ x12_4
                            · rw [if_pos c14] at H
                              have c14b0 : decide (0 ≤ x12_4) = true := decide_eq_true c14
                              clear c14
                              replace H := Option.bind_eq_some_iff.mp H
                              obtain ⟨t151, A150, H⟩ := H
                              replace H : (if t151 = true then ((some (([x9_2] : List Int) : List Int)).bind fun y152 => (if y152.length + (rd_L1 t147 x12_4).length < 17592186044416 then (some ((y152 ++ (rd_L1 t147 x12_4)), 0)) else (none))) else (neonwrightref05_Hidden.l2 k4 a0 l1 a2 x9_2 x10_3 t147 (wrap64 (x12_4 + 1)))) = some (r1, r2) := H
                              have A15 := Aside0.mk A150
                              clear A150
                              by_cases c16 : t151 = true
                              · subst c16
                                have H1 : ((some (([x9_2] : List Int) : List Int)).bind fun y152 => (if y152.length + (rd_L1 t147 x12_4).length < 17592186044416 then (some ((y152 ++ (rd_L1 t147 x12_4)), 0)) else (none))) = some (r1, r2) := by rw [if_pos rfl] at H; exact H
                                clear H
                                have H := H1
                                clear H1
                                obtain ⟨y152, hy152⟩ : ∃ y_ : List Int, y_ = (([x9_2] : List Int)) := ⟨_, rfl⟩
                                replace H : (if y152.length + (rd_L1 t147 x12_4).length < 17592186044416 then (some ((y152 ++ (rd_L1 t147 x12_4)), 0)) else (none)) = some (r1, r2) := by first | (rw [hy152]; with_reducible exact H) | (have H2_ := (Option.bind_some _ _).symm.trans H; rw [hy152]; with_reducible exact H2_) | (have H2_ := (Option.bind_some _ _).symm.trans H; with_reducible exact H2_) | with_reducible exact H | (rw [hy152]; exact H) | exact H
                                have Ny152 := Aside0.mk hy152
                                clear hy152
                                by_cases c17 : y152.length + (rd_L1 t147 x12_4).length < 17592186044416
                                · rw [if_pos c17] at H
                                  have LMc17 := Aside0.mk c17
                                  clear c17
                                  obtain ⟨y156, hy156⟩ : ∃ y_ : List Int, y_ = (y152 ++ (rd_L1 t147 x12_4)) := ⟨_, rfl⟩
                                  replace H : (some (y156, 0)) = some (r1, r2) := by first | (rw [hy156]; with_reducible exact H) | (have H2_ := (Option.bind_some _ _).symm.trans H; rw [hy156]; with_reducible exact H2_) | (have H2_ := (Option.bind_some _ _).symm.trans H; with_reducible exact H2_) | with_reducible exact H | (rw [hy156]; exact H) | exact H
                                  have Ny156 := Aside0.mk hy156
                                  clear hy156
                                  simp only [Option.some.injEq, Prod.mk.injEq] at H
                                  obtain ⟨rfl, rfl⟩ := H
                                  obtain ⟨Ao18, co18, eo18⟩ := Kd.S_slice HO_11.out
                                  subst eo18
                                  have p150 : 0 ≤ (x12_4 : Int) := of_decide_eq_true (by first | (with_reducible assumption) | assumption)
                                  have q150 : x12_4 < (t147.length : Int) := of_decide_eq_true (by first | (with_reducible assumption) | assumption)
                                  obtain ⟨ad150, A150_0, c150_0, e150, hx150_0, hl150_0, hi150_0⟩ := at_L1 (Kd.S_reads' HO_11.out).2.2 x12_4 p150 q150
                                  cases e150
                                  obtain ⟨ce150, hce150, hMe150, hcc150⟩ := Kd.S_get HO_11.out [] x12_4 p150 (by first | exact q150 | exact of_decide_eq_true (by first | (with_reducible assumption) | assumption) | (have e_ := (Kd.S_reads' HO_11.out).1; omega))
                                  obtain ⟨ve150_0, rfl, ge150_0⟩ := hMe150
                                  have hv150_0 := hcc150 0 _ rfl
                                  rw [Nat.add_zero, show ((Kd.slice 3 (Kd.int .i64))).sz = 1 from rfl, Nat.mul_one] at hv150_0
                                  replace hv150_0 := Option.some.inj (hv150_0.symm.trans hx150_0)
                                  rw [hv150_0] at ge150_0
                                  have HL150_0 := Aside0.mk (show Kd.R (Kd.int .i64) 3 _ _ _ _ (rd_L1 t147 x12_4) from ge150_0)
                                  clear hv150_0 ge150_0
                                  clear hcc150 hce150
                                  have HR150_0 := Aside0.mk hi150_0
                                  have HC150_0 := Aside0.mk hl150_0
                                  clear hi150_0 hl150_0
                                  replace p150 := eq_true p150
                                  replace q150 := eq_true q150
                                  go_wp2_with (first | ((with_reducible refine gate_callee (f := 51) rfl ?_); refine goesL_ (some 52) rfl rfl Tryd.func51 (by kernel_rfl) rfl #[.slice A1 l1.length c1, .int .i64 x9_2, .slice A150_0 (rd_L1 t147 x12_4).length c150_0] rfl (by (try simp only [List.map_toArray, List.map_cons, List.map_nil]); first | done | rfl | (simp only [List.length_drop, List.length_take]; rfl)) ?_; (with_reducible refine (neonwrightref05_hidden.calls k4 _ _ l1 x9_2 _ _ (rd_L1 t147 x12_4) true _ ?side1 ?side2 ?side3 ?side4 A15.out).mono ?_); (case side1 => repeat (first | exact (Kd.C_below HR1.out HB.out) | (with_reducible refine Kd.C_alloc ?_ _) | (with_reducible refine Kd.C_drewN ?_ _) | (with_reducible refine Kd.C_drew ?_))); (case side2 => exact HC1.out); (case side3 => repeat (first | exact (by repeat (first | (with_reducible exact HR150_0.out) | (with_reducible refine Kd.C_alloc ?_ _) | (with_reducible refine Kd.C_drewN ?_ _) | (with_reducible refine Kd.C_drew ?_) | exact HR150_0.out)) | (with_reducible refine Kd.C_alloc ?_ _) | (with_reducible refine Kd.C_drewN ?_ _) | (with_reducible refine Kd.C_drew ?_))); (case side4 => exact HC150_0.out); rintro e w' ⟨rfl, ⟨nd, rfl⟩⟩; refine ⟨_, rfl, ?_⟩) | ((with_reducible refine gate_dst (N := 54) rfl ?_); refine Kd.R_lit (Kd.int .i64) _ 3 ?hg (N := 54) ?hd (xs := ([x9_2] : List Int)) (inner := [.int .i64 x9_2]) (ok := fun _ => True) (okp := fun _ => True) ?hr ?hp (fun _ hk => hk) trivial (Below.refl _ _) (Nat.le_refl _) (by simp) ?_; (case hd => rfl); (case hg => rfl); (case hr => first | (go_simp; done) | (go_simp; rfl)); (case hp => exact (Reps.one (show Kd.M (Kd.int .i64) _ _ _ x9_2 [.int .i64 x9_2] from rfl) (Reps.none _ _))); intro v153 w19 ho20 hb hg_ hnew_; clear hg_ hnew_; (first | rw [← Ny152.out] at ho20 | (simp only [Int.reduceToNat] at ho20; rw [← Ny152.out] at ho20)); have n0_ := Aside0.mk (Kd.S_elder' (by (with_reducible repeat (first | apply Kd.S_alloc | apply Kd.S_drewN | apply Kd.S_drew)); exact HO_11.out) (Kd.R_base ho20) hb); have n1_ := Aside0.mk (Kd.R_elder' (by (with_reducible repeat (first | apply Kd.R_alloc | apply Kd.R_drewN | apply Kd.R_drew)); exact HL150_0.out) (Kd.R_base ho20) hb); have n2_ := Aside0.mk (Kd.R_lower (Kd.R_new' ho20 (Kd.R_lt (by (with_reducible repeat (first | apply Kd.R_alloc | apply Kd.R_drewN | apply Kd.R_drew)); exact HL150_0.out))) (below_size (by repeat (first | (with_reducible first | exact HB.out | apply below_alloc | apply pw_below_drewN | apply below_drew1) | exact HB.out)))); have n3_ := Aside0.mk (Kd.C_below (by repeat (first | (with_reducible exact HR150_0.out) | (with_reducible refine Kd.C_alloc ?_ _) | (with_reducible refine Kd.C_drewN ?_ _) | (with_reducible refine Kd.C_drew ?_) | exact HR150_0.out)) hb); have n4_ := Aside0.mk (below_step (by repeat (first | (with_reducible first | exact HB.out | apply below_alloc | apply pw_below_drewN | apply below_drew1) | exact HB.out)) hb); clear HO_11; clear HL150_0; clear HR150_0; clear HB; have HO_11 := n0_; have HL150_0 := n1_; have HO154 := n2_; have HR150_0 := n3_; have HB := n4_; clear n0_ n1_ n2_ n3_ n4_; clear hb ho20; have p155 : 0 ≤ (x12_4 : Int) := of_decide_eq_true (by first | (with_reducible assumption) | assumption); have q155 : x12_4 < (t147.length : Int) := of_decide_eq_true (by first | (with_reducible assumption) | assumption); obtain ⟨ad155, A155_0, c155_0, e155, hx155_0, hl155_0, hi155_0⟩ := at_L1 (Kd.S_reads' HO_11.out).2.2 x12_4 p155 q155; obtain rfl : ad150 = ad155 := (by injection e155); obtain ⟨ce155, hce155, hMe155, hcc155⟩ := Kd.S_get HO_11.out [] x12_4 p155 (by first | exact q155 | exact of_decide_eq_true (by first | (with_reducible assumption) | assumption) | (have e_ := (Kd.S_reads' HO_11.out).1; omega)); obtain ⟨ve155_0, rfl, ge155_0⟩ := hMe155; have hv155_0 := hcc155 0 _ rfl; rw [Nat.add_zero, show ((Kd.slice 3 (Kd.int .i64))).sz = 1 from rfl, Nat.mul_one] at hv155_0; replace hv155_0 := Option.some.inj (hv155_0.symm.trans hx155_0); rw [hv155_0] at ge155_0; have HL155_0 := Aside0.mk (show Kd.R (Kd.int .i64) 3 _ _ _ _ (rd_L1 t147 x12_4) from ge155_0); clear hv155_0 ge155_0; clear hcc155 hce155; have HR155_0 := Aside0.mk hi155_0; have HC155_0 := Aside0.mk hl155_0; clear hi155_0 hl155_0; replace p155 := eq_true p155; replace q155 := eq_true q155) | ((with_reducible refine gate_builtin (b := .append) (xs := #[.tmp 55, .tmp 59]) rfl ?_); at_builtin; refine Kd.R_append_rows (Kd.int .i64) (w0 := w) w.heap.size rfl (.tmp 55) (.tmp 59) 25 3 (.int .i64 0) 8 rfl Tryd.underlying25 info3 rfl (by decide) (by omega) v153 y152 (rd_L1 t147 x12_4) _ _ _ (fun k_ => some k_ ≠ (.slice A150_0 (rd_L1 t147 x12_4).length c150_0 : Value).ownBlock) (fun _ => False) rfl rfl ?aO ?aR (fun _ _ h => h) (fun _ h => h.elim) ?aF ?aB ?aS ?aL ?_; (case aR => repeat (first | exact (by repeat (first | (with_reducible exact HR155_0.out) | (with_reducible refine Kd.C_alloc ?_ _) | (with_reducible refine Kd.C_drewN ?_ _) | (with_reducible refine Kd.C_drew ?_) | exact HR155_0.out)) | (with_reducible refine Kd.C_alloc ?_ _) | (with_reducible refine Kd.C_drewN ?_ _) | (with_reducible refine Kd.C_drew ?_))); (case aB => exact (by repeat (first | (with_reducible first | exact HB.out | apply below_alloc | apply pw_below_drewN | apply below_drew1) | exact HB.out))); (case aF => exact (fun k_ hk => Kd.fresh' (Kd.R_lt (by (with_reducible repeat (first | apply Kd.R_alloc | apply Kd.R_drewN | apply Kd.R_drew)); exact HL150_0.out)) k_ hk)); (case aO => exact (by (with_reducible repeat (first | apply Kd.R_alloc | apply Kd.R_drewN | apply Kd.R_drew)); exact Kd.R_mono HO154.out (fun _ hk => hk.2))); (case aS => exact (below_size (by repeat (first | (with_reducible first | exact HB.out | apply below_alloc | apply pw_below_drewN | apply below_drew1) | exact HB.out)))); (case aL => have := LMc17.out; omega); intro v157 w21 ho hb hg hat; rw [← Ny156.out] at ho; have n0_ := Aside0.mk (Kd.S_after (ok := (fun _ => True)) (by (with_reducible repeat (first | apply Kd.S_alloc | apply Kd.S_drewN | apply Kd.S_drew)); exact HO_11.out) hg hat); have n1_ := Aside0.mk (Kd.R_after (ok := (fun k_ => some k_ ≠ (.slice (some ad150) t147.length co18 : Value).ownBlock)) (by (with_reducible repeat (first | apply Kd.R_alloc | apply Kd.R_drewN | apply Kd.R_drew)); exact Kd.R_mono HL150_0.out (fun _ hk => ⟨hk.1.2, hk.2⟩)) hg hat); have n2_ := Aside0.mk (Kd.R_after (ok := (fun k_ => some k_ ≠ (.slice (some ad150) t147.length co18 : Value).ownBlock)) (by (with_reducible repeat (first | apply Kd.R_alloc | apply Kd.R_drewN | apply Kd.R_drew)); exact Kd.R_mono HL155_0.out (fun _ hk => ⟨hk.2, hk.1.2⟩)) hg hat); have n3_ := Aside0.mk (hb); have n4_ := Aside0.mk (ho); clear HO_11; clear HL150_0; clear HL155_0; clear HB; clear HO154; have HO_11 := n0_; have HL150_0 := n1_; have HL155_0 := n2_; have HB := n3_; have HO158 := n4_; clear n0_ n1_ n2_ n3_ n4_; clear ho hb hg hat))
                                  go_ret2
                                  exact ⟨_, by first | rfl | (simp [errW_none, errW_some] <;> rfl) | (simp [*, errW_none, errW_some] <;> rfl), by (with_reducible repeat (first | apply Kd.R_alloc | apply Kd.R_drewN | apply Kd.R_drew)); exact Kd.R_mono HO158.out (fun _ hk => trivial), by repeat (first | (with_reducible first | exact HB.out | apply below_alloc | apply pw_below_drewN | apply below_drew1) | exact HB.out)⟩
                                · rw [if_neg c17] at H
                                  exact absurd H (by simp)
                              · replace c16 := Bool.eq_false_iff.mpr c16
                                subst c16
                                have H1 : (neonwrightref05_Hidden.l2 k4 a0 l1 a2 x9_2 x10_3 t147 (wrap64 (x12_4 + 1))) = some (r1, r2) := by rw [if_neg (show ¬ (false = true) by decide)] at H; exact H
                                clear H
                                have H := H1
                                clear H1
                                have H' := Aside0.mk H
                                clear H
                                obtain ⟨Ao22, co22, eo22⟩ := Kd.S_slice HO_11.out
                                subst eo22
                                have p150 : 0 ≤ (x12_4 : Int) := of_decide_eq_true (by first | (with_reducible assumption) | assumption)
                                have q150 : x12_4 < (t147.length : Int) := of_decide_eq_true (by first | (with_reducible assumption) | assumption)
                                obtain ⟨ad150, A150_0, c150_0, e150, hx150_0, hl150_0, hi150_0⟩ := at_L1 (Kd.S_reads' HO_11.out).2.2 x12_4 p150 q150
                                cases e150
                                obtain ⟨ce150, hce150, hMe150, hcc150⟩ := Kd.S_get HO_11.out [] x12_4 p150 (by first | exact q150 | exact of_decide_eq_true (by first | (with_reducible assumption) | assumption) | (have e_ := (Kd.S_reads' HO_11.out).1; omega))
                                obtain ⟨ve150_0, rfl, ge150_0⟩ := hMe150
                                have hv150_0 := hcc150 0 _ rfl
                                rw [Nat.add_zero, show ((Kd.slice 3 (Kd.int .i64))).sz = 1 from rfl, Nat.mul_one] at hv150_0
                                replace hv150_0 := Option.some.inj (hv150_0.symm.trans hx150_0)
                                rw [hv150_0] at ge150_0
                                have HL150_0 := Aside0.mk (show Kd.R (Kd.int .i64) 3 _ _ _ _ (rd_L1 t147 x12_4) from ge150_0)
                                clear hv150_0 ge150_0
                                clear hcc150 hce150
                                have HR150_0 := Aside0.mk hi150_0
                                have HC150_0 := Aside0.mk hl150_0
                                clear hi150_0 hl150_0
                                replace p150 := eq_true p150
                                replace q150 := eq_true q150
                                go_wp2_with (first | ((with_reducible refine gate_callee (f := 51) rfl ?_); refine goesL_ (some 52) rfl rfl Tryd.func51 (by kernel_rfl) rfl #[.slice A1 l1.length c1, .int .i64 x9_2, .slice A150_0 (rd_L1 t147 x12_4).length c150_0] rfl (by (try simp only [List.map_toArray, List.map_cons, List.map_nil]); first | done | rfl | (simp only [List.length_drop, List.length_take]; rfl)) ?_; (with_reducible refine (neonwrightref05_hidden.calls k4 _ _ l1 x9_2 _ _ (rd_L1 t147 x12_4) false _ ?side1 ?side2 ?side3 ?side4 A15.out).mono ?_); (case side1 => repeat (first | exact (Kd.C_below HR1.out HB.out) | (with_reducible refine Kd.C_alloc ?_ _) | (with_reducible refine Kd.C_drewN ?_ _) | (with_reducible refine Kd.C_drew ?_))); (case side2 => exact HC1.out); (case side3 => repeat (first | exact (by repeat (first | (with_reducible exact HR150_0.out) | (with_reducible refine Kd.C_alloc ?_ _) | (with_reducible refine Kd.C_drewN ?_ _) | (with_reducible refine Kd.C_drew ?_) | exact HR150_0.out)) | (with_reducible refine Kd.C_alloc ?_ _) | (with_reducible refine Kd.C_drewN ?_ _) | (with_reducible refine Kd.C_drew ?_))); (case side4 => exact HC150_0.out); rintro e w' ⟨rfl, ⟨nd, rfl⟩⟩; refine ⟨_, rfl, ?_⟩))
                                go_roundg k4
                                case measure => have := HJ5.out; have := HK2.out; have := HK3.out; have := HK4.out; omega
                                case rel => exact ⟨(wrap64 (x12_4 + 1)), (by first | rfl | (simp; done) | (simp [*]; done)), H', ⟨by have := HJ5.out; have := HK2.out; have := HK3.out; have := HK4.out; omega⟩, ⟨by (with_reducible repeat (first | apply Kd.S_alloc | apply Kd.S_drewN | apply Kd.S_drew)); first | exact HO_11.out | exact Kd.R_mono HO_11.out (fun k_ h_ => ne_own_len h_)⟩, ⟨by repeat (first | (with_reducible first | exact HB.out | apply below_alloc | apply pw_below_drewN | apply below_drew1) | exact HB.out)⟩⟩
                            · rw [if_neg c14] at H
                              exact absurd H (by simp)
                          · rw [if_neg c13] at H
                            have c13b0 : decide (x12_4 < (t147.length : Int)) = false := decide_eq_false c13
                            clear c13
                            have H' := Aside0.mk H
                            clear H
                            obtain ⟨Ao23, co23, eo23⟩ := Kd.S_slice HO_11.out
                            subst eo23
                            go_wp2
                            go_roundg k4
                            case measure => have := HJ5.out; have := HK2.out; have := HK3.out; have := HK4.out; omega
                            case rel => exact ⟨(wrap64 (x10_3 + 1)), (by first | rfl | (simp; done) | (simp [*]; done)), H', ⟨by have := HJ5.out; have := HK2.out; have := HK3.out; have := HK4.out; omega⟩, ⟨by repeat (first | (with_reducible first | exact HB.out | apply below_alloc | apply pw_below_drewN | apply below_drew1) | exact HB.out)⟩⟩
                    · rw [if_neg c10] at H
                      have c10b0 : decide (x10_3 ≤ a2) = false := decide_eq_false c10
                      clear c10
                      have H' := Aside0.mk H
                      clear H
                      go_wp2
                      go_roundg k3
                      case measure => have := HJ5.out; have := HK2.out; have := HK3.out; omega
                      case rel => exact ⟨(wrap64 (x9_2 + 1)), (by first | rfl | (simp; done) | (simp [*]; done)), H', ⟨by have := HJ5.out; have := HK2.out; have := HK3.out; omega⟩, ⟨by repeat (first | (with_reducible first | exact HB.out | apply below_alloc | apply pw_below_drewN | apply below_drew1) | exact HB.out)⟩⟩
              · rw [if_neg c9] at H
                have c9b0 : decide (x9_2 < a0) = false := decide_eq_false c9
                clear c9
                simp only [Option.some.injEq, Prod.mk.injEq] at H
                obtain ⟨rfl, rfl⟩ := H
                go_wp2
                go_ret2
                exact ⟨_, by first | rfl | (simp [errW_none, errW_some] <;> rfl) | (simp [*, errW_none, errW_some] <;> rfl), by first | exact Kd.R_nil _ _ _ _ _ | exact Kd.N_nil _ _ _ _ _ | exact Kd.V_nil _ _ _ _ _ | exact Kd.Q_nil _ _ _ _ _ | exact Kd.S_nil _ _ _ _ _, by repeat (first | (with_reducible first | exact HB.out | apply below_alloc | apply pw_below_drewN | apply below_drew1) | exact HB.out)⟩
  · rw [if_neg c5] at H
    have c5b0 : (t146 == 0) = false := beq_eq_false_iff_ne.mpr c5
    have c5b1 : (t146 != 0) = true := bne_iff_ne.mpr c5
    simp only [Option.some.injEq, Prod.mk.injEq] at H
    obtain ⟨rfl, rfl⟩ := H
    go_enter Tryd.func19, Tryd.ntmps19
    go_wp2_with (first | ((with_reducible refine gate_callee (f := 49) rfl ?_); refine goesL_ (some 16) rfl rfl Tryd.func49 (by kernel_rfl) rfl #[.int .i64 a0, .slice A1 l1.length c1] rfl (by (try simp only [List.map_toArray, List.map_cons, List.map_nil]); first | done | rfl | (simp only [List.length_drop, List.length_take]; rfl)) ?_; (with_reducible refine (neonwrightref05_Design.calls k a0 _ _ l1 t146 _ ?side1 ?side2 A4.out).mono ?_); (case side1 => repeat (first | exact HR1.out | (with_reducible refine Kd.C_alloc ?_ _) | (with_reducible refine Kd.C_drewN ?_ _) | (with_reducible refine Kd.C_drew ?_))); (case side2 => exact HC1.out); rintro e w' ⟨rfl, ⟨nd, rfl⟩⟩; refine ⟨_, rfl, ?_⟩))
    go_ret2
    exact ⟨_, by first | rfl | (simp [errW_none, errW_some] <;> rfl) | (simp [*, errW_none, errW_some] <;> rfl), by first | exact Kd.R_nil _ _ _ _ _ | exact Kd.N_nil _ _ _ _ _ | exact Kd.V_nil _ _ _ _ _ | exact Kd.Q_nil _ _ _ _ _ | exact Kd.S_nil _ _ _ _ _, by repeat (first | (with_reducible first | exact HB.out | apply below_alloc | apply pw_below_drewN | apply below_drew1) | exact HB.out)⟩

end Go.Proofs.YtglajokjiphafaaDoor.P

set_option linter.unusedSimpArgs false
set_option linter.unusedVariables false
namespace Go.Proofs.YtglajokjiphafaaDoor.P
open Go.Lib Go.RowKit Go.Proofs.YtglajokjiphafaaDoorW.PrintWords Go.Proofs.YtglajokjiphafaaDoorW.PrintLast Go.Proofs.YtglajokjiphafaaDoorW.PrintMore Go.Proofs.YtglajokjiphafaaDoor.Kit

theorem has_l0 (l : List Int) (a : Int) (hl : l.length ≤ 4611686018427387904) : ∀ m i, l.length - i = m → i ≤ l.length → Ev (fun k => neonwrightref05_has.l0 k l a (i : Int)) ((l.drop i).contains a) := by
  intro m
  induction m with
  | zero =>
    intro i hm hi
    have hie : i = l.length := by omega
    subst hie
    rw [List.drop_length]
    refine Ev.step (fun k => ?_) (Ev.now false)
    simp only [neonwrightref05_has.l0]
    rw [if_neg (by omega)]
  | succ m ih =>
    intro i hm hi
    have hlt : i < l.length := by omega
    rw [List.drop_eq_getElem_cons hlt, List.contains_cons]
    by_cases e : l[i] = a
    · have e2 : (a == l[i]) = true := by simp [e]
      rw [e2, Bool.true_or]
      refine Ev.step (fun k => ?_) (Ev.now true)
      simp only [neonwrightref05_has.l0]
      rw [if_pos (by omega), if_pos (by omega), rd_get l i hlt, if_pos e]
    · have e2 : (a == l[i]) = false := by simp; exact fun h => e h.symm
      rw [e2, Bool.false_or]
      refine Ev.step (fun k => ?_) (ih (i + 1) (by omega) (by omega))
      simp only [neonwrightref05_has.l0]
      rw [if_pos (by omega), if_pos (by omega), rd_get l i hlt, if_neg e, wrap1 (by omega)]
theorem has_ev (l : List Int) (a : Int) (hl : l.length ≤ 4611686018427387904) : Ev (fun k => neonwrightref05_has.f k l a) (l.contains a) := by
  have := has_l0 l a hl l.length 0 (by omega) (by omega)
  rw [List.drop_zero] at this
  exact this
theorem meets_l0 (l o : List Int) (hl : l.length ≤ 4611686018427387904) (ho : o.length ≤ 4611686018427387904) : ∀ m i, l.length - i = m → i ≤ l.length → Ev (fun k => neonwrightref05_meets.l0 k l o (i : Int)) ((l.drop i).any fun x => o.contains x) := by
  intro m
  induction m with
  | zero =>
    intro i hm hi
    have hie : i = l.length := by omega
    subst hie
    rw [List.drop_length]
    refine Ev.step (fun k => ?_) (Ev.now false)
    simp only [neonwrightref05_meets.l0]
    rw [if_neg (by omega)]
  | succ m ih =>
    intro i hm hi
    have hlt : i < l.length := by omega
    have h1 := has_ev o l[i] ho
    rw [List.drop_eq_getElem_cons hlt, List.any_cons]
    cases hc : o.contains l[i] with
    | true =>
      rw [hc] at h1
      rw [Bool.true_or]
      refine Ev.step (f := fun k => (neonwrightref05_has.f k o l[i]).bind fun t => if t = true then some true else neonwrightref05_meets.l0 k l o ((i + 1 : Nat) : Int)) (fun k => ?_) (Ev.bnd h1 (Ev.now true))
      simp only [neonwrightref05_meets.l0]
      rw [if_pos (by omega), if_pos (by omega), rd_get l i hlt, wrap1 (by omega)]
    | false =>
      rw [hc] at h1
      rw [Bool.false_or]
      refine Ev.step (f := fun k => (neonwrightref05_has.f k o l[i]).bind fun t => if t = true then some true else neonwrightref05_meets.l0 k l o ((i + 1 : Nat) : Int)) (fun k => ?_) (Ev.bnd h1 (ih (i + 1) (by omega) (by omega)))
      simp only [neonwrightref05_meets.l0]
      rw [if_pos (by omega), if_pos (by omega), rd_get l i hlt, wrap1 (by omega)]
theorem meets_ev (l o : List Int) (hl : l.length ≤ 4611686018427387904) (ho : o.length ≤ 4611686018427387904) : Ev (fun k => neonwrightref05_meets.f k l o) (l.any fun x => o.contains x) := by
  have := meets_l0 l o hl ho l.length 0 (by omega) (by omega)
  rw [List.drop_zero] at this
  exact this
theorem any_swap (a b : List Int) : (a.any fun x => b.contains x) = b.any fun x => a.contains x := by
  rw [Bool.eq_iff_iff, List.any_eq_true, List.any_eq_true]
  constructor
  · rintro ⟨x, h1, h2⟩; exact ⟨x, by simpa using h2, by simpa using h1⟩
  · rintro ⟨x, h1, h2⟩; exact ⟨x, by simpa using h2, by simpa using h1⟩
theorem hidden_l0 (d : List (List Int)) (t : Int) (o : List Int) (hd : d.length ≤ 4611686018427387904) (hr : ∀ r ∈ d, r.length ≤ 4611686018427387904) (ho : o.length ≤ 4611686018427387904) :
    ∀ m i, d.length - i = m → i ≤ d.length → Ev (fun k => neonwrightref05_hidden.l0 k d t o (i : Int)) (hidB (d.drop i) t o) := by
  intro m
  induction m with
  | zero =>
    intro i hm hi
    have hie : i = d.length := by omega
    subst hie
    rw [List.drop_length]
    refine Ev.step (fun k => ?_) (Ev.now true)
    simp only [neonwrightref05_hidden.l0]
    rw [if_neg (by omega)]
  | succ m ih =>
    intro i hm hi
    have hlt : i < d.length := by omega
    have hri := hr d[i] (List.getElem_mem hlt)
    have h1 := has_ev d[i] t hri
    have h2 := meets_ev d[i] o hri ho
    have h3 := ih (i + 1) (by omega) (by omega)
    have hcons : hidB (d[i] :: d.drop (i + 1)) t o = ((!d[i].contains t || o.any fun x => d[i].contains x) && hidB (d.drop (i + 1)) t o) := rfl
    rw [List.drop_eq_getElem_cons hlt, hcons, ← any_swap]
    refine Ev.step (f := fun k => (neonwrightref05_has.f k d[i] t).bind fun t162 => if t162 = true then ((neonwrightref05_meets.f k d[i] o).bind fun t164 => if t164 = true then neonwrightref05_hidden.l0 k d t o ((i + 1 : Nat) : Int) else some false) else neonwrightref05_hidden.l0 k d t o ((i + 1 : Nat) : Int)) (fun k => ?_) ?_
    · simp only [neonwrightref05_hidden.l0]
      rw [if_pos (by omega), if_pos (by omega), rdL_get d i hlt, wrap1 (by omega)]
    · refine Ev.bnd h1 ?_
      cases hc : d[i].contains t with
      | false => simpa using h3
      | true =>
        cases hm2 : (d[i].any fun x => o.contains x) with
        | true => rw [hm2] at h2; simpa using Ev.bnd h2 (f := fun k t164 => if t164 = true then neonwrightref05_hidden.l0 k d t o ((i + 1 : Nat) : Int) else some false) (by simpa using h3)
        | false => rw [hm2] at h2; simpa using Ev.bnd h2 (f := fun k t164 => if t164 = true then neonwrightref05_hidden.l0 k d t o ((i + 1 : Nat) : Int) else some false) (Ev.now false)
theorem hidden_ev (d : List (List Int)) (t : Int) (o : List Int) (hd : d.length ≤ 4611686018427387904) (hr : ∀ r ∈ d, r.length ≤ 4611686018427387904) (ho : o.length ≤ 4611686018427387904) :
    Ev (fun k => neonwrightref05_hidden.f k d t o) (hidB d t o) := by
  have := hidden_l0 d t o hd hr ho d.length 0 (by omega) (by omega)
  rw [List.drop_zero] at this
  exact this
theorem rrising_l0 (n : Int) (l : List Int) (hl : l.length ≤ 4611686018427387904) : ∀ d i, l.length - i = d → i ≤ l.length → Ev (fun k => neonwrightref05_rising.l0 k l n (i : Int)) (risFrom n l d i) := by
  intro d
  induction d with
  | zero =>
    intro i hd hi
    refine Ev.step (fun k => ?_) (Ev.now true)
    simp only [neonwrightref05_rising.l0]
    rw [if_neg (by omega)]
  | succ d ih =>
    intro i hd hi
    have h1 := ih (i + 1) (by omega) (by omega)
    have hw := wrap1 (i := i) (by omega)
    simp only [risFrom, risStep]
    by_cases c1 : rd l (i : Int) < 0
    · rw [decide_eq_false (show ¬ (0 ≤ rd l (i : Int)) by omega)]
      refine Ev.step (fun k => ?_) (Ev.now false)
      simp only [neonwrightref05_rising.l0]
      rw [if_pos (by omega), if_pos (by omega), if_pos c1]
    · rw [decide_eq_true (show 0 ≤ rd l (i : Int) by omega), Bool.true_and]
      by_cases c2 : rd l (i : Int) ≥ n
      · rw [decide_eq_false (show ¬ (rd l (i : Int) < n) by omega)]
        refine Ev.step (fun k => ?_) (Ev.now false)
        simp only [neonwrightref05_rising.l0]
        rw [if_pos (by omega), if_pos (by omega), if_neg c1, if_pos c2]
      · rw [decide_eq_true (show rd l (i : Int) < n by omega), Bool.true_and]
        by_cases c3 : i = 0
        · rw [decide_eq_true c3, Bool.true_or, Bool.true_and]
          refine Ev.step (fun k => ?_) h1
          simp only [neonwrightref05_rising.l0]
          rw [if_pos (by omega), if_pos (by omega), if_neg c1, if_neg c2, if_neg (by omega), hw]
        · have hw2 : wrap64 ((i : Int) - 1) = ((i - 1 : Nat) : Int) := by rw [w64 (by omega) (by omega)]; omega
          rw [decide_eq_false c3, Bool.false_or]
          by_cases c4 : rd l (i : Int) ≤ rd l ((i - 1 : Nat) : Int)
          · rw [decide_eq_false (show ¬ (rd l ((i - 1 : Nat) : Int) < rd l (i : Int)) by omega)]
            refine Ev.step (fun k => ?_) (Ev.now false)
            simp only [neonwrightref05_rising.l0]
            rw [if_pos (by omega), if_pos (by omega), if_neg c1, if_neg c2, if_pos (by omega), hw2, if_pos (by omega), if_pos (by omega), if_pos c4]
          · rw [decide_eq_true (show rd l ((i - 1 : Nat) : Int) < rd l (i : Int) by omega), Bool.true_and]
            refine Ev.step (fun k => ?_) h1
            simp only [neonwrightref05_rising.l0]
            rw [if_pos (by omega), if_pos (by omega), if_neg c1, if_neg c2, if_pos (by omega), hw2, if_pos (by omega), if_pos (by omega), if_neg c4, hw]
theorem rrising_ev (n : Int) (l : List Int) (hl : l.length ≤ 4611686018427387904) : Ev (fun k => neonwrightref05_rising.f k l n) (risB n l) := rrising_l0 n l hl l.length 0 (by omega) (by omega)
theorem design_l0 (n : Int) (d : List (List Int)) (hd : d.length ≤ 60) (hr : ∀ r ∈ d, r.length ≤ 4611686018427387904) : ∀ m i, d.length - i = m → i ≤ d.length →
    Ev (fun k => neonwrightref05_Design.l0 k n d (i : Int)) (if (d.drop i).all (risB n) = true then 0 else 2) := by
  intro m
  induction m with
  | zero =>
    intro i hm hi
    have hie : i = d.length := by omega
    subst hie
    rw [List.drop_length]
    refine Ev.step (fun k => ?_) (Ev.now 0)
    simp only [neonwrightref05_Design.l0]
    rw [if_neg (by omega)]
  | succ m ih =>
    intro i hm hi
    have hlt : i < d.length := by omega
    have h1 := rrising_ev n d[i] (hr d[i] (List.getElem_mem hlt))
    have h2 := ih (i + 1) (by omega) (by omega)
    rw [List.drop_eq_getElem_cons hlt, List.all_cons]
    refine Ev.step (f := fun k => (neonwrightref05_rising.f k d[i] n).bind fun t => if t = true then neonwrightref05_Design.l0 k n d ((i + 1 : Nat) : Int) else some 2) (fun k => ?_) ?_
    · simp only [neonwrightref05_Design.l0]
      rw [if_pos (by omega), if_pos (by omega), rdL_get d i hlt, wrap1 (by omega)]
    · refine Ev.bnd h1 ?_
      cases hc : risB n d[i] with
      | true => simpa using h2
      | false => simpa using Ev.now (2 : Int)
theorem design_ev (n : Int) (d : List (List Int)) (hr : ∀ r ∈ d, r.length ≤ 4611686018427387904) : Ev (fun k => neonwrightref05_Design.f k n d) (ofN n d) := by
  unfold ofN
  by_cases h1 : n < 1
  · rw [if_neg (by omega)]
    refine Ev.congr (f := fun k => neonwrightref05_Design.j0 k n d true) (fun k => by unfold neonwrightref05_Design.f; rw [if_pos h1]) (Ev.step (fun k => ?_) (Ev.now 2))
    simp only [neonwrightref05_Design.j0]; rfl
  · refine Ev.congr (f := fun k => neonwrightref05_Design.j0 k n d (decide (n > 49))) (fun k => by unfold neonwrightref05_Design.f; rw [if_neg h1]) ?_
    by_cases h2 : n > 49
    · rw [if_neg (by omega), decide_eq_true h2]
      refine Ev.step (fun k => ?_) (Ev.now 2)
      simp only [neonwrightref05_Design.j0]; rfl
    · rw [if_pos (by omega), decide_eq_false h2]
      by_cases h3 : d.length ≤ 60
      · rw [if_pos h3]
        have := design_l0 n d h3 hr d.length 0 (by omega) (by omega)
        rw [List.drop_zero] at this
        refine Ev.step (fun k => ?_) this
        simp only [neonwrightref05_Design.j0]
        rw [if_neg (by decide), if_neg (by omega)]
        rfl
      · rw [if_neg h3]
        refine Ev.step (fun k => ?_) (Ev.now 3)
        simp only [neonwrightref05_Design.j0]
        rw [if_neg (by decide), if_pos (by omega)]
end Go.Proofs.YtglajokjiphafaaDoor.P

set_option linter.unusedSimpArgs false
set_option linter.unusedVariables false
namespace Go.Proofs.YtglajokjiphafaaDoor.P
open Go.Lib Go.RowKit Go.Proofs.YtglajokjiphafaaDoorW.PrintWords Go.Proofs.YtglajokjiphafaaDoorW.PrintLast Go.Proofs.YtglajokjiphafaaDoorW.PrintMore Go.Proofs.YtglajokjiphafaaDoor.Kit

theorem alive_ev : Ev (fun k => neonwrightlaw05_alive.f k) true := by
  obtain ⟨k, hk⟩ := neonwrightlaw05_alive.tells
  exact Ev.of neonwrightlaw05_alive.mono hk
theorem same_l0 (l : List Int) (hl : l.length ≤ 4611686018427387904) : ∀ m i, l.length - i = m → i ≤ l.length → Ev (fun k => neonwrightlaw05_same.l0 k l l (i : Int)) true := by
  intro m
  induction m with
  | zero =>
    intro i hm hi
    refine Ev.step (fun k => ?_) (Ev.now true)
    simp only [neonwrightlaw05_same.l0]
    rw [if_neg (by omega)]
  | succ m ih =>
    intro i hm hi
    refine Ev.step (fun k => ?_) (ih (i + 1) (by omega) (by omega))
    simp only [neonwrightlaw05_same.l0]
    rw [if_pos (by omega), if_pos (by omega), if_pos (by omega), if_pos trivial, wrap1 (by omega)]
theorem same_refl (l : List Int) (hl : l.length ≤ 4611686018427387904) : Ev (fun k => neonwrightlaw05_same.f k l l) true := by
  refine Ev.congr (f := fun k => neonwrightlaw05_same.l0 k l l ((0 : Nat) : Int)) (fun k => ?_) (same_l0 l hl l.length 0 (by omega) (by omega))
  unfold neonwrightlaw05_same.f
  rw [if_pos rfl]
  rfl
theorem few_l0 (d : List (List Int)) : ∀ m i, 81 - i = m → i ≤ 80 → i ≤ d.length → (∀ j (hj : j < d.length), j < i → (d[j]).length ≤ 80) → ∃ b, Ev (fun k => neonwrightlaw05_few.l0 k d (i : Int)) b ∧ (b = true → d.length ≤ 80 ∧ ∀ r ∈ d, r.length ≤ 80) := by
  intro m
  induction m with
  | zero => intro i hm hi; omega
  | succ m ih =>
    intro i hm hi hid hp
    by_cases h1 : i < d.length
    · by_cases h2 : i = 80
      · refine ⟨false, Ev.step (fun k => ?_) (Ev.now false), fun h => by cases h⟩
        simp only [neonwrightlaw05_few.l0]
        rw [if_pos (by omega), if_pos (by omega)]
      · by_cases h3 : (d[i]).length ≤ 80
        · obtain ⟨b, hb, hs⟩ := ih (i + 1) (by omega) (by omega) (by omega) (fun j hj hji => by
            by_cases e : j = i
            · subst e; exact h3
            · exact hp j hj (by omega))
          refine ⟨b, Ev.step (fun k => ?_) hb, hs⟩
          simp only [neonwrightlaw05_few.l0]
          rw [if_pos (by omega), if_neg (by omega), if_pos (by omega), rdL_get d i h1, if_neg (by omega), wrap1 (by omega)]
        · refine ⟨false, Ev.step (fun k => ?_) (Ev.now false), fun h => by cases h⟩
          simp only [neonwrightlaw05_few.l0]
          rw [if_pos (by omega), if_neg (by omega), if_pos (by omega), rdL_get d i h1, if_pos (by omega)]
    · refine ⟨true, Ev.step (fun k => ?_) (Ev.now true), fun _ => ⟨by omega, fun r hr => ?_⟩⟩
      · simp only [neonwrightlaw05_few.l0]
        rw [if_neg (by omega)]
      · obtain ⟨j, hj, rfl⟩ := List.mem_iff_getElem.1 hr
        exact hp j hj (by omega)
theorem few_ev (d : List (List Int)) : ∃ b, Ev (fun k => neonwrightlaw05_few.f k d) b ∧ (b = true → d.length ≤ 80 ∧ ∀ r ∈ d, r.length ≤ 80) :=
  few_l0 d 81 0 (by omega) (by omega) (by omega) (fun j hj h => by omega)
theorem cmb_row (n : Nat) : ∀ m i, ∀ l ∈ cmb n m i, l.length = m := by
  intro m
  induction m with
  | zero => intro i l hl; simp [cmb] at hl; rw [hl]; rfl
  | succ m ih =>
    intro i l hl
    unfold cmb at hl
    obtain ⟨t, _, h2⟩ := List.mem_flatMap.1 hl
    obtain ⟨y, hy, rfl⟩ := List.mem_map.1 h2
    rw [List.length_cons, ih _ y hy]
theorem hidL_length (n : Nat) (d : List (List Int)) (D : Nat) : (hidL n d D).length ≤ D + 1 := by
  unfold hidL
  cases h : (List.range' 0 n).findSome? (hidT n d D) with
  | none => simp
  | some l =>
    obtain ⟨t, _, h1⟩ := List.exists_of_findSome?_eq_some h
    obtain ⟨m, hm, h2⟩ := List.exists_of_findSome?_eq_some h1
    unfold hidM at h2
    obtain ⟨y, hy, rfl⟩ := Option.map_eq_some_iff.1 h2
    have h3 := cmb_row n m 0 y (List.mem_of_find?_eq_some hy)
    have h4 := (List.mem_range'_1.1 hm).2
    show ((t : Int) :: y).length ≤ D + 1
    rw [List.length_cons]
    omega
theorem hidP_length (n : Int) (d : List (List Int)) (D : Int) : (hidP n d D).1.length ≤ 4611686018427387904 := by
  unfold hidP
  split
  · split
    · rename_i h
      have h1 := hidL_length n.toNat d D.toNat
      show (hidL n.toNat d D.toNat).length ≤ _
      omega
    · simp
  · simp
end Go.Proofs.YtglajokjiphafaaDoor.P

set_option linter.unusedSimpArgs false
set_option linter.unusedVariables false
namespace Go.Proofs.YtglajokjiphafaaDoor.P
open Go.Lib Go.RowKit Go.Proofs.YtglajokjiphafaaDoorW.PrintWords Go.Proofs.YtglajokjiphafaaDoorW.PrintLast Go.Proofs.YtglajokjiphafaaDoorW.PrintMore Go.Proofs.YtglajokjiphafaaDoor.Kit

theorem rdB_get (l : List Bool) (i : Nat) (h : i < l.length) : rdOf false l (i : Int) = l[i] := by unfold rdOf; simp [List.getD_eq_getElem?_getD, h]
theorem routc_l0 (d : List (List Int)) (f : List Int) (hd : d.length ≤ 1000000) (hr : ∀ r ∈ d, r.length ≤ 4611686018427387904) (hf : f.length ≤ 4611686018427387904) : ∀ m i, d.length - i = m → i ≤ d.length → Ev (fun k => neonwrightref05_outcomes.l0 k d f ((outB d f).take i) (i : Int)) (outB d f) := by
  intro m
  induction m with
  | zero =>
    intro i hm hi
    rw [List.take_of_length_le (by rw [outB_length]; omega)]
    refine Ev.step (fun k => ?_) (Ev.now (outB d f))
    simp only [neonwrightref05_outcomes.l0]
    rw [if_neg (by omega)]
  | succ m ih =>
    intro i hm hi
    have hlt : i < d.length := by omega
    have h1 := meets_ev d[i] f (hr _ (List.getElem_mem hlt)) hf
    have h2 := ih (i + 1) (by omega) (by omega)
    have hlo : i < (outB d f).length := by rw [outB_length]; exact hlt
    have ht : (outB d f).take (i + 1) = (outB d f).take i ++ [d[i].any fun x => f.contains x] := by
      rw [List.take_succ_eq_append_getElem hlo, show (outB d f)[i] = d[i].any fun x => f.contains x by rw [any_swap]; simp [outB]]
    have htl : ((outB d f).take i).length ≤ 1000000 := by rw [List.length_take, outB_length]; omega
    rw [ht] at h2
    refine Ev.step (f := fun k => (neonwrightref05_meets.f k d[i] f).bind fun t => neonwrightref05_outcomes.l0 k d f ((outB d f).take i ++ [t]) ((i + 1 : Nat) : Int)) (fun k => ?_) (Ev.bnd h1 h2)
    simp only [neonwrightref05_outcomes.l0]
    rw [if_pos (by omega), if_pos (by omega), rdL_get d i hlt, wrap1 (by omega)]
    simp only [if_pos (show ((outB d f).take i).length < 140737488355328 by omega)]
theorem routc_ev (d : List (List Int)) (f : List Int) (hd : d.length ≤ 1000000) (hr : ∀ r ∈ d, r.length ≤ 4611686018427387904) (hf : f.length ≤ 4611686018427387904) : Ev (fun k => neonwrightref05_outcomes.f k d f) (outB d f) := by
  have := routc_l0 d f hd hr hf d.length 0 (by omega) (by omega)
  rw [List.take_zero] at this
  exact this
theorem rOutcomes_ev (n : Int) (d : List (List Int)) (f : List Int) (hd : d.length ≤ 1000000) (hr : ∀ r ∈ d, r.length ≤ 4611686018427387904) (hf : f.length ≤ 4611686018427387904) : Ev (fun k => neonwrightref05_Outcomes.f k n d f) (outP n d f) := by
  refine Ev.congr (f := fun k => (neonwrightref05_Design.f k n d).bind fun t245 => (if t245 = 0 then ((neonwrightref05_rising.f k f n).bind fun t246 => (if t246 = true then ((neonwrightref05_outcomes.f k d f).bind fun t247 => (some (t247, (0 : Int)))) else (some (([] : List Bool), 2)))) else (some (([] : List Bool), t245)))) (fun k => rfl) (Ev.bnd (design_ev n d hr) ?_)
  unfold outP
  by_cases h : ofN n d = 0
  · rw [if_pos h]
    refine Ev.pos h (Ev.bnd (rrising_ev n f hf) ?_)
    cases hb : risB n f with
    | true => exact Ev.pos rfl (Ev.bnd (routc_ev d f hd hr hf) (Ev.now _))
    | false => exact Ev.neg (by decide) (Ev.now _)
  · rw [if_neg h]
    exact Ev.neg h (Ev.now _)
theorem flags_l0 (l : List Bool) (hl : l.length ≤ 4611686018427387904) : ∀ m i, l.length - i = m → i ≤ l.length → Ev (fun k => neonwrightlaw05_flags.l0 k l l (i : Int)) true := by
  intro m
  induction m with
  | zero =>
    intro i hm hi
    refine Ev.step (fun k => ?_) (Ev.now true)
    simp only [neonwrightlaw05_flags.l0]
    rw [if_neg (by omega)]
  | succ m ih =>
    intro i hm hi
    refine Ev.step (fun k => ?_) (ih (i + 1) (by omega) (by omega))
    simp only [neonwrightlaw05_flags.l0]
    rw [if_pos (by omega), if_pos (by omega), if_pos (by omega), if_neg (by simp), wrap1 (by omega)]
theorem flags_refl (l : List Bool) (hl : l.length ≤ 4611686018427387904) : Ev (fun k => neonwrightlaw05_flags.f k l l) true := by
  refine Ev.congr (f := fun k => neonwrightlaw05_flags.l0 k l l ((0 : Nat) : Int)) (fun k => ?_) (flags_l0 l hl l.length 0 (by omega) (by omega))
  unfold neonwrightlaw05_flags.f
  rw [if_pos rfl]
  rfl
theorem lists_l0 (d : List (List Int)) (hl : d.length ≤ 4611686018427387904) (hr : ∀ r ∈ d, r.length ≤ 4611686018427387904) : ∀ m i, d.length - i = m → i ≤ d.length → Ev (fun k => neonwrightlaw05_lists.l0 k d d (i : Int)) true := by
  intro m
  induction m with
  | zero =>
    intro i hm hi
    refine Ev.step (fun k => ?_) (Ev.now true)
    simp only [neonwrightlaw05_lists.l0]
    rw [if_neg (by omega)]
  | succ m ih =>
    intro i hm hi
    have hlt : i < d.length := by omega
    refine Ev.step (f := fun k => (neonwrightlaw05_same.f k d[i] d[i]).bind fun t => if t = true then neonwrightlaw05_lists.l0 k d d ((i + 1 : Nat) : Int) else some false) (fun k => ?_) (Ev.bnd (same_refl _ (hr _ (List.getElem_mem hlt))) (Ev.pos rfl (ih (i + 1) (by omega) (by omega))))
    simp only [neonwrightlaw05_lists.l0]
    rw [if_pos (by omega), if_pos (by omega), if_pos (by omega), rdL_get d i hlt, wrap1 (by omega)]
theorem lists_refl (d : List (List Int)) (hl : d.length ≤ 4611686018427387904) (hr : ∀ r ∈ d, r.length ≤ 4611686018427387904) : Ev (fun k => neonwrightlaw05_lists.f k d d) true := by
  refine Ev.congr (f := fun k => neonwrightlaw05_lists.l0 k d d ((0 : Nat) : Int)) (fun k => ?_) (lists_l0 d hl hr d.length 0 (by omega) (by omega))
  unfold neonwrightlaw05_lists.f
  rw [if_pos rfl]
  rfl
theorem copied_l0 (d : List (List Int)) (hl : d.length ≤ 1000000) (hr : ∀ r ∈ d, r.length ≤ 1000000) : ∀ m i, d.length - i = m → i ≤ d.length → Ev (fun k => neonwrightlaw05_copied.l0 k d (d.take i) (i : Int)) d := by
  intro m
  induction m with
  | zero =>
    intro i hm hi
    rw [List.take_of_length_le (by omega)]
    refine Ev.step (fun k => ?_) (Ev.now d)
    simp only [neonwrightlaw05_copied.l0]
    rw [if_neg (by omega)]
  | succ m ih =>
    intro i hm hi
    have hlt : i < d.length := by omega
    have h2 := ih (i + 1) (by omega) (by omega)
    rw [List.take_succ_eq_append_getElem hlt] at h2
    have h3 := hr _ (List.getElem_mem hlt)
    have h4 : (d.take i).length ≤ 1000000 := by rw [List.length_take]; omega
    have h5 : ([] : List Int).length = 0 := rfl
    refine Ev.step (fun k => ?_) h2
    simp only [neonwrightlaw05_copied.l0]
    rw [if_pos (by omega), if_pos (by omega), rdL_get d i hlt, if_pos (by omega), if_pos (by omega), wrap1 (by omega)]
    rfl
theorem copied_ev (d : List (List Int)) (hl : d.length ≤ 1000000) (hr : ∀ r ∈ d, r.length ≤ 1000000) : Ev (fun k => neonwrightlaw05_copied.f k d) d := by
  have := copied_l0 d hl hr d.length 0 (by omega) (by omega)
  rw [List.take_zero] at this
  exact this
theorem outP_length (n : Int) (d : List (List Int)) (f : List Int) : (outP n d f).1.length ≤ 60 := by
  unfold outP
  split
  · rename_i h
    have := (ofN_ok h).2.1
    split
    · show (outB d f).length ≤ 60
      rw [outB_length]; exact this
    · simp
  · simp
end Go.Proofs.YtglajokjiphafaaDoor.P
