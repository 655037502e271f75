/- Several texts of this session in one file, in build order: DRows, Pf23, Pf5, Pf86, Pf58, Pf30, Pf59, Pf31, DFew. -/
import Derived.Test.YtglajokjiphafaaDoorJB1
import Derived.Deep.Matrix
import Derived.OpenShut
import Derived.ProofKit
import Derived.Test.YtglajokjiphafaaDoorJB2
set_option linter.unusedSimpArgs false
set_option linter.unusedVariables false
namespace Go.Proofs.YtglajokjiphafaaDoor.P
open Go.Lib Go.RowKit Go.ChangeShapes Go.WideShapes Go.ChangeAt Go.Proofs.YtglajokjiphafaaDoorW.PrintWords Go.Proofs.YtglajokjiphafaaDoorW.PrintLast Go.Proofs.YtglajokjiphafaaDoorW.PrintMore

theorem C_scalar {k : IntKind} {w : World} {a : Addr} {zs : List Int} (hl : zs.length ≤ 9223372036854775807) (hc : ∀ i, (h : i < zs.length) → w.cell? (a.add i) = some (.int k zs[i])) : Kd.C (Kd.int k) w (some a) zs.length zs := by
  refine ⟨rfl, hl, fun _ => ⟨a, rfl, fun j p hp => ?_⟩⟩
  obtain ⟨hj, rfl⟩ := List.getElem?_eq_some_iff.1 hp
  refine ⟨[.int k zs[j]], rfl, rfl, fun i u hu => ?_⟩
  cases i with
  | zero =>
    have h1 : u = .int k zs[j] := by simpa using hu.symm
    subst h1
    have h2 : j * (Kd.int k).sz + 0 = j := by show j * 1 + 0 = j; omega
    rw [h2]
    exact hc j hj
  | succ i => simp at hu
theorem C_nil {α : Type} (d : Kd α) (w : World) (A : Option Addr) : Kd.C d w A ([] : List α).length [] := ⟨rfl, by simp, fun h => by simp at h⟩
theorem ints_open {H : Type} {enc : TypeId × Value → H} {w : World} {base : Nat} {held : Bool} {fuel : Nat} {A : Option Addr} {len cap : Nat} {x : DataW H × List MemPlace}
    (h : DataW.trod enc Tryd.prog w base (fun _ => true) held fuel 25 (Value.slice A len cap).cells.toList = some x) : ∃ z : List Int, z.length = len ∧ Kd.C (Kd.int .i64) w A len z ∧ len ≤ cap := by
  rcases open_ints Tryd.underlying25 Tryd.underlying3 (by kernel_rfl) h with ⟨hcs, _⟩ | ⟨a, l, c, zs, hcs, _, hl, hm, hz, _, hcell, hwz⟩
  · simp [Value.cells] at hcs
    obtain ⟨rfl, rfl, rfl⟩ := hcs
    exact ⟨[], rfl, C_nil _ _ _, Nat.le_refl _⟩
  · simp [Value.cells] at hcs
    obtain ⟨rfl, rfl, rfl⟩ := hcs
    have hzl : zs.length = cap := by simpa using hz
    have ht : (zs.take len).length = len := by rw [List.length_take]; omega
    refine ⟨zs.take len, ht, ?_, hl⟩
    have := C_scalar (k := .i64) (w := w) (a := a) (zs := zs.take len) (by rw [ht]; unfold maxLen at hm; omega) (fun i hi => by
      have h1 := hcell i (by rw [List.length_take] at hi; omega)
      rw [h1]
      rw [List.length_take] at hi
      simp [List.getD_eq_getElem?_getD, List.getElem?_eq_getElem (show i < zs.length by omega)])
    rw [ht] at this
    exact this
theorem rows_open {H : Type} {enc : TypeId × Value → H} {w : World} {base : Nat} {held : Bool} {fuel : Nat} {A : Option Addr} {len cap : Nat} {x : DataW H × List MemPlace}
    (h : DataW.trod enc Tryd.prog w base (fun _ => true) held fuel 22 (Value.slice A len cap).cells.toList = some x) : ∃ z : List (List Int), z.length = len ∧ Kd.C (Kd.slice 3 (Kd.int .i64)) w A len z ∧ len ≤ cap := by
  rcases Go.Deep.open_int_rows Tryd.underlying22 Tryd.underlying25 Tryd.underlying3 (by kernel_rfl) (by kernel_rfl) h with ⟨hcs, _⟩ | ⟨a, l, c, A1, L, C, Z, hcs, _, hl, hm, _, hr⟩
  · simp [Value.cells] at hcs
    obtain ⟨rfl, rfl, rfl⟩ := hcs
    exact ⟨[], rfl, C_nil _ _ _, Nat.le_refl _⟩
  · simp [Value.cells] at hcs
    obtain ⟨rfl, rfl, rfl⟩ := hcs
    refine ⟨(List.range len).map fun r => (Z r).take (L r), by simp, ⟨by simp, by unfold maxLen at hm; omega, fun _ => ⟨a, rfl, fun j p hp => ?_⟩⟩, hl⟩
    obtain ⟨hj, rfl⟩ := List.getElem?_eq_some_iff.1 hp
    have hj' : j < len := by simpa using hj
    obtain ⟨h1, h2, h3, h4, _, h6, h7⟩ := hr j (by omega)
    have ht : ((Z j).take (L j)).length = L j := by rw [List.length_take]; omega
    refine ⟨[.slice (A1 j) (L j) (C j)], rfl, ⟨A1 j, C j, by simp [ht], by simp [ht]; omega, ?_⟩, fun i u hu => ?_⟩
    · rw [List.getElem_map, List.getElem_range]
      cases hA : A1 j with
      | none =>
        have h0 := h6 hA
        have hz : (Z j).take (L j) = [] := List.length_eq_zero_iff.1 (by omega)
        rw [hz]
        exact C_nil _ _ _
      | some a' =>
        have h8 := (h7 a' hA).2
        exact C_scalar (by rw [ht]; unfold maxLen at h3; omega) (fun i hi => by
          rw [h8 i (by omega)]
          simp [List.getD_eq_getElem?_getD, List.getElem?_eq_getElem (show i < (Z j).length by omega)])
    · cases i with
      | zero =>
        have h9 : u = .slice (A1 j) (L j) (C j) := by simpa using hu.symm
        subst h9
        have h10 : j * (Kd.slice 3 (Kd.int .i64)).sz + 0 = j := by show j * 1 + 0 = j; omega
        rw [h10]
        exact h1
      | succ i => simp at hu
end Go.Proofs.YtglajokjiphafaaDoor.P

namespace Go.Proofs.YtglajokjiphafaaDoor.P
open Go.RowKit Go.Proofs.YtglajokjiphafaaDoorW.PrintWords Go.Proofs.YtglajokjiphafaaDoorW.PrintLast Go.Proofs.YtglajokjiphafaaDoorW.PrintMore
attribute [local go_sem] max2_int min2_int max_two min_two max_three min_three max_four min_four   -- for this text's walks alone
set_option linter.unusedVariables false
set_option linter.unusedSimpArgs false

/-! ### neonwrightref05_Few: function 23 -/
mutual
def neonwrightref05_Few.j0 : Nat → Int → Int → Bool → Option (List Int × Bool)
  | 0, _, _, _ => none
  | k + 1, x0, x1, x24 => if x24 = true then (some (([] : List Int), false)) else (neonwrightref05_Few.l0 k x0 x1 ([] : List Int) 0)
def neonwrightref05_Few.l0 : Nat → Int → Int → List Int → Int → Option (List Int × Bool)
  | 0, _, _, _, _ => none
  | k + 1, x0, x1, x6, x7 => if 0 ≤ x0 then (if x7 < (shl .i64 1 x0) then (neonwrightref05_Few.l1 k x0 x1 x6 x7 0 0) else (some (x6, true))) else (none)
def neonwrightref05_Few.l1 : Nat → Int → Int → List Int → Int → Int → Int → Option (List Int × Bool)
  | 0, _, _, _, _, _, _ => none
  | k + 1, x0, x1, x6, x7, x8, x9 => if x9 < x0 then (if 0 ≤ x9 then (neonwrightref05_Few.l1 k x0 x1 x6 x7 (wrap64 (x8 + (Int.tmod (shr .i64 x7 x9) 2))) (wrap64 (x9 + 1))) else (none)) else (if x8 ≤ x1 then (if x6.length < 17592186044416 then (neonwrightref05_Few.l0 k x0 x1 (x6 ++ [x7]) (wrap64 (x7 + 1))) else (none)) else (neonwrightref05_Few.l0 k x0 x1 x6 (wrap64 (x7 + 1))))
end
def neonwrightref05_Few.f (k : Nat) (a0 : Int) (a1 : Int) : Option (List Int × Bool) := if a0 < 1 then (neonwrightref05_Few.j0 k a0 a1 true) else (if a0 > 5 then (neonwrightref05_Few.j0 k a0 a1 true) else (if a1 < 0 then (neonwrightref05_Few.j0 k a0 a1 true) else (neonwrightref05_Few.j0 k a0 a1 (decide (a1 > a0)))))
theorem neonwrightref05_Few.mono_l : ∀ k, (∀ y0 y1 y2, LeO (neonwrightref05_Few.j0 k y0 y1 y2) (neonwrightref05_Few.j0 (k + 1) y0 y1 y2)) ∧ (∀ y0 y1 y2 y3, LeO (neonwrightref05_Few.l0 k y0 y1 y2 y3) (neonwrightref05_Few.l0 (k + 1) y0 y1 y2 y3)) ∧ (∀ y0 y1 y2 y3 y4 y5, LeO (neonwrightref05_Few.l1 k y0 y1 y2 y3 y4 y5) (neonwrightref05_Few.l1 (k + 1) y0 y1 y2 y3 y4 y5))
  | 0 => ⟨fun _ _ _ r h => by simp [neonwrightref05_Few.j0] at h, fun _ _ _ _ r h => by simp [neonwrightref05_Few.l0] at h, fun _ _ _ _ _ _ r h => by simp [neonwrightref05_Few.l1] at h⟩
  | k + 1 => by
    obtain ⟨ih0, ih1, ih2⟩ := neonwrightref05_Few.mono_l k
    refine ⟨?_, ?_, ?_⟩
    · intro y0 y1 y2
      unfold neonwrightref05_Few.j0
      repeat' first
      | (with_reducible exact ih0 _ _ _)
      | (with_reducible exact ih1 _ _ _ _)
      | (with_reducible exact ih2 _ _ _ _ _ _)
      | (with_reducible exact LeO.refl _)
      | (with_reducible exact LeO.none _)
      | (with_reducible refine LeO.ite ?_ ?_)
      | (with_reducible refine LeO.bind ?_ (fun _ => ?_))
      | exact ih0 _ _ _
      | exact ih1 _ _ _ _
      | exact ih2 _ _ _ _ _ _
      | exact LeO.none _
      | refine LeO.ite ?_ ?_
      | refine LeO.bind ?_ (fun _ => ?_)
    · intro y0 y1 y2 y3
      unfold neonwrightref05_Few.l0
      repeat' first
      | (with_reducible exact ih0 _ _ _)
      | (with_reducible exact ih1 _ _ _ _)
      | (with_reducible exact ih2 _ _ _ _ _ _)
      | (with_reducible exact LeO.refl _)
      | (with_reducible exact LeO.none _)
      | (with_reducible refine LeO.ite ?_ ?_)
      | (with_reducible refine LeO.bind ?_ (fun _ => ?_))
      | exact ih0 _ _ _
      | exact ih1 _ _ _ _
      | exact ih2 _ _ _ _ _ _
      | exact LeO.none _
      | refine LeO.ite ?_ ?_
      | refine LeO.bind ?_ (fun _ => ?_)
    · intro y0 y1 y2 y3 y4 y5
      unfold neonwrightref05_Few.l1
      repeat' first
      | (with_reducible exact ih0 _ _ _)
      | (with_reducible exact ih1 _ _ _ _)
      | (with_reducible exact ih2 _ _ _ _ _ _)
      | (with_reducible exact LeO.refl _)
      | (with_reducible exact LeO.none _)
      | (with_reducible refine LeO.ite ?_ ?_)
      | (with_reducible refine LeO.bind ?_ (fun _ => ?_))
      | exact ih0 _ _ _
      | exact ih1 _ _ _ _
      | exact ih2 _ _ _ _ _ _
      | exact LeO.none _
      | refine LeO.ite ?_ ?_
      | refine LeO.bind ?_ (fun _ => ?_)
theorem neonwrightref05_Few.mono : ∀ a0 a1 k, LeO (neonwrightref05_Few.f k a0 a1) (neonwrightref05_Few.f (k + 1) a0 a1) := by
  intro a0 a1 k
  obtain ⟨ih0, ih1, ih2⟩ := neonwrightref05_Few.mono_l k
  unfold neonwrightref05_Few.f
  repeat' first
      | (with_reducible exact ih0 _ _ _)
      | (with_reducible exact ih1 _ _ _ _)
      | (with_reducible exact ih2 _ _ _ _ _ _)
      | (with_reducible exact LeO.refl _)
      | (with_reducible exact LeO.none _)
      | (with_reducible refine LeO.ite ?_ ?_)
      | (with_reducible refine LeO.bind ?_ (fun _ => ?_))
      | exact ih0 _ _ _
      | exact ih1 _ _ _ _
      | exact ih2 _ _ _ _ _ _
      | exact LeO.none _
      | refine LeO.ite ?_ ?_
      | refine LeO.bind ?_ (fun _ => ?_)
set_option maxHeartbeats 8000000 in
set_option maxRecDepth 100000 in
theorem neonwrightref05_Few.calls (k : Nat) (a0 : Int) (a1 : Int) (r1 : List Int) (r2 : Bool) (w : World) (h : neonwrightref05_Few.f k a0 a1 = some (r1, r2)) :
    Calls Tryd.prog 23 #[.int .i64 a0, .int .i64 a1] w fun e w' => ∃ v0_ : Value, e = .returned (.tuple #[v0_, .bool r2]) ∧ Kd.R (Kd.int .i64) 3 w' w.heap.size (fun _ => True) v0_ r1 ∧ Below w.heap.size w w' := by
  have HB := Aside0.mk (Below.refl w.heap.size w)
  have H : (if a0 < 1 then (neonwrightref05_Few.j0 k a0 a1 true) else (if a0 > 5 then (neonwrightref05_Few.j0 k a0 a1 true) else (if a1 < 0 then (neonwrightref05_Few.j0 k a0 a1 true) else (neonwrightref05_Few.j0 k a0 a1 (decide (a1 > a0)))))) = some (r1, r2) := h
  clear h
  have HC3 := Aside0.mk H
  clear H
  go_enter Tryd.func23, Tryd.ntmps23
  go_upto_region 1 with (fail)
  go_cut [24] (fun v24 wc => ∃ (kq : Nat) (x24_2 : Bool), v24 = .bool x24_2 ∧ Aside0 (neonwrightref05_Few.j0 kq a0 a1 x24_2 = some (r1, r2)) ∧ Aside0 (kq ≤ k) ∧ Aside0 (Below w.heap.size w wc))
  case first =>
    have H := HC3.out
    clear HC3
    by_cases c4 : a0 < 1
    · rw [if_pos c4] at H
      have c4b0 : decide (a0 < 1) = true := decide_eq_true c4
      clear c4
      (first | rw [c4b0] | (simp only [i64_w, i32_w]; rw [c4b0]) | skip)
      have H' := Aside0.mk H
      clear H
      go_wp2
      go_meet
      case rel => exact ⟨_, (true), (by first | rfl | (simp; done) | (simp [*]; done)), H', ⟨by first | omega | exact Nat.le_refl _⟩, ⟨by repeat (first | (with_reducible first | exact HB.out | apply below_alloc | apply pw_below_drewN | apply below_drew1) | exact HB.out)⟩⟩
    · rw [if_neg c4] at H
      have c4b0 : decide (a0 < 1) = false := decide_eq_false c4
      clear c4
      (first | rw [c4b0] | (simp only [i64_w, i32_w]; rw [c4b0]) | skip)
      by_cases c5 : a0 > 5
      · rw [if_pos c5] at H
        have c5b0 : decide (5 < a0) = true := decide_eq_true c5
        clear c5
        have H' := Aside0.mk H
        clear H
        go_wp2
        go_meet
        case rel => exact ⟨_, (true), (by first | rfl | (simp; done) | (simp [*]; done)), H', ⟨by first | omega | exact Nat.le_refl _⟩, ⟨by repeat (first | (with_reducible first | exact HB.out | apply below_alloc | apply pw_below_drewN | apply below_drew1) | exact HB.out)⟩⟩
      · rw [if_neg c5] at H
        have c5b0 : decide (5 < a0) = false := decide_eq_false c5
        clear c5
        by_cases c6 : a1 < 0
        · rw [if_pos c6] at H
          have c6b0 : decide (a1 < 0) = true := decide_eq_true c6
          clear c6
          have H' := Aside0.mk H
          clear H
          go_wp2
          go_meet
          case rel => exact ⟨_, (true), (by first | rfl | (simp; done) | (simp [*]; done)), H', ⟨by first | omega | exact Nat.le_refl _⟩, ⟨by repeat (first | (with_reducible first | exact HB.out | apply below_alloc | apply pw_below_drewN | apply below_drew1) | exact HB.out)⟩⟩
        · rw [if_neg c6] at H
          have c6b0 : decide (a1 < 0) = false := decide_eq_false c6
          clear c6
          have H' := Aside0.mk H
          clear H
          go_wp2
          go_meet
          case rel => exact ⟨_, (decide (a1 > a0)), (by first | rfl | (simp; done) | (simp [*]; done)), H', ⟨by first | omega | exact Nat.le_refl _⟩, ⟨by repeat (first | (with_reducible first | exact HB.out | apply below_alloc | apply pw_below_drewN | apply below_drew1) | exact HB.out)⟩⟩
  case rest =>
    clear HC3
    try clear c2
    try clear p2
    try clear c4
    try clear c4b0
    try clear c5
    try clear c5b0
    try clear c6
    try clear c6b0
    obtain ⟨kq, x24_2, rfl, HA, HJ2, HB⟩ := hcut
    cases kq with
    | zero => exact absurd HA.out (by simp [neonwrightref05_Few.j0])
    | succ kj2 =>
      have H := HA.out
      clear HA
      simp only [neonwrightref05_Few.j0] at H
      by_cases c7 : x24_2 = true
      · subst c7
        have H1 : (some (([] : List Int), false)) = some (r1, r2) := by rw [if_pos rfl] at H; exact H
        clear H
        have H := H1
        clear H1
        simp only [Option.some.injEq, Prod.mk.injEq] at H
        obtain ⟨rfl, rfl⟩ := H
        go_wp2
        go_ret2
        exact ⟨_, by first | rfl | (simp [errW_none, errW_some] <;> rfl) | (simp [*, errW_none, errW_some] <;> rfl), by first | exact Kd.R_nil _ _ _ _ _ | exact Kd.N_nil _ _ _ _ _ | exact Kd.V_nil _ _ _ _ _ | exact Kd.Q_nil _ _ _ _ _ | exact Kd.S_nil _ _ _ _ _, by repeat (first | (with_reducible first | exact HB.out | apply below_alloc | apply pw_below_drewN | apply below_drew1) | exact HB.out)⟩
      · replace c7 := Bool.eq_false_iff.mpr c7
        subst c7
        have H1 : (neonwrightref05_Few.l0 kj2 a0 a1 ([] : List Int) 0) = some (r1, r2) := by rw [if_neg (show ¬ (false = true) by decide)] at H; exact H
        clear H
        have H := H1
        clear H1
        have H' := Aside0.mk H
        clear H
        go_wp2
        go_loopg [6, 7] kj2 (fun kq v6 v7 w' => ∃ (x6_2 : List Int) (x7_2 : Int), v7 = .int .i64 x7_2 ∧ Aside0 (neonwrightref05_Few.l0 kq a0 a1 x6_2 x7_2 = some (r1, r2)) ∧ Aside0 (kq ≤ kj2) ∧ Aside0 (Kd.R (Kd.int .i64) 3 w' w.heap.size (fun _ => True) v6 x6_2) ∧ Aside0 (Below w.heap.size w w'))
        case atStart => exact ⟨(([] : List Int)), (0), (by first | rfl | (simp; done) | (simp [*]; done)), H', ⟨Nat.le_refl _⟩, ⟨by first | exact Kd.R_nil _ _ _ _ _ | exact Kd.N_nil _ _ _ _ _ | exact Kd.V_nil _ _ _ _ _ | exact Kd.Q_nil _ _ _ _ _ | exact Kd.S_nil _ _ _ _ _⟩, ⟨by repeat (first | (with_reducible first | exact HB.out | apply below_alloc | apply pw_below_drewN | apply below_drew1) | exact HB.out)⟩⟩
        case round =>
          clear H'
          try clear c2
          try clear p2
          try clear c4
          try clear c4b0
          try clear c5
          try clear c5b0
          try clear c6
          try clear c6b0
          try clear c7
          try clear p2
          obtain ⟨x6_2, x7_2, rfl, HA, HK2, HO_6, HB⟩ := hrel
          cases gk with
          | zero => exact absurd HA.out (by simp [neonwrightref05_Few.l0])
          | succ k2 =>
            have H := HA.out
            clear HA
            simp only [neonwrightref05_Few.l0] at H
            by_cases c8 : 0 ≤ a0
            · rw [if_pos c8] at H
              have c8b0 := eq_true c8
              have c8b1 : decide (0 ≤ a0) = true := decide_eq_true c8
              clear c8
              obtain ⟨ji9, hji9⟩ : ∃ j_ : Int, (shl .i64 1 a0) = j_ := ⟨_, rfl⟩
              replace H : (if x7_2 < (ji9) then (neonwrightref05_Few.l1 k2 a0 a1 x6_2 x7_2 0 0) else (some (x6_2, true))) = some (r1, r2) := by first | (rw [hji9] at H; exact H) | (simp only [hji9] at H ⊢; exact H)
              have hji9_ : (IntKind.i64.wrap (1 * 2 ^ min a0.toNat 64)) = ji9 := hji9
              have hji9z : a0 ≤ 64 → (IntKind.i64.wrap (1 * 2 ^ a0.toNat)) = ji9 := shl_small hji9
              have hji9u : (IntKind.i64.wrap (2 ^ min a0.toNat 64)) = ji9 := by have h_ := hji9_; rw [Int.one_mul] at h_; exact h_
              have hji9v : a0 ≤ 64 → (IntKind.i64.wrap (2 ^ a0.toNat)) = ji9 := fun hle_ => by have h_ := hji9z hle_; rw [Int.one_mul] at h_; exact h_
              have hji9y : (wrap64 (1 * 2 ^ min a0.toNat 64)) = ji9 := (i64_w _).symm.trans hji9_
              have hji9x : a0 ≤ 64 → (wrap64 (1 * 2 ^ a0.toNat)) = ji9 := fun h_ => (i64_w _).symm.trans (hji9z h_)
              by_cases c10 : x7_2 < (ji9)
              · rw [if_pos c10] at H
                have c10b0 : decide (x7_2 < (ji9)) = true := decide_eq_true c10
                clear c10
                have H' := Aside0.mk H
                clear H
                go_wp2
                go_loopg [8, 9] k2 (fun kq v8 v9 w' => ∃ (x8_3 : Int) (x9_3 : Int), v8 = .int .i64 x8_3 ∧ v9 = .int .i64 x9_3 ∧ Aside0 (neonwrightref05_Few.l1 kq a0 a1 x6_2 x7_2 x8_3 x9_3 = some (r1, r2)) ∧ Aside0 (kq ≤ k2) ∧ Aside0 (Kd.R (Kd.int .i64) 3 w' w.heap.size (fun _ => True) u6 x6_2) ∧ Aside0 (Below w.heap.size w w'))
                case atStart => exact ⟨(0), (0), (by first | rfl | (simp; done) | (simp [*]; done)), (by first | rfl | (simp; done) | (simp [*]; done)), H', ⟨Nat.le_refl _⟩, ⟨by (with_reducible repeat (first | apply Kd.R_alloc | apply Kd.R_drewN | apply Kd.R_drew)); first | exact HO_6.out | exact Kd.R_mono HO_6.out (fun k_ h_ => ne_own_len h_)⟩, ⟨by repeat (first | (with_reducible first | exact HB.out | apply below_alloc | apply pw_below_drewN | apply below_drew1) | exact HB.out)⟩⟩
                case round =>
                  clear H'
                  try clear c1
                  try clear c2
                  try clear p2
                  try clear c4
                  try clear c4b0
                  try clear c5
                  try clear c5b0
                  try clear c6
                  try clear c6b0
                  try clear p6
                  try clear c7
                  try clear c8
                  try clear c8b0
                  try clear c8b1
                  try clear c10
                  try clear c10b0
                  try clear p2
                  obtain ⟨x8_3, x9_3, rfl, rfl, HA, HK3, HO_6, HB⟩ := hrel
                  cases gk with
                  | zero => exact absurd HA.out (by simp [neonwrightref05_Few.l1])
                  | succ k3 =>
                    have H := HA.out
                    clear HA
                    simp only [neonwrightref05_Few.l1] at H
                    by_cases c11 : x9_3 < a0
                    · rw [if_pos c11] at H
                      have c11b0 : decide (x9_3 < a0) = true := decide_eq_true c11
                      clear c11
                      by_cases c12 : 0 ≤ x9_3
                      · rw [if_pos c12] at H
                        have c12b0 := eq_true c12
                        have c12b1 : decide (0 ≤ x9_3) = true := decide_eq_true c12
                        clear c12
                        obtain ⟨ji13, hji13⟩ : ∃ j_ : Int, (shr .i64 x7_2 x9_3) = j_ := ⟨_, rfl⟩
                        replace H : (neonwrightref05_Few.l1 k3 a0 a1 x6_2 x7_2 (wrap64 (x8_3 + (Int.tmod (ji13) 2))) (wrap64 (x9_3 + 1))) = some (r1, r2) := by first | (rw [hji13] at H; exact H) | (simp only [hji13] at H ⊢; exact H)
                        have hji13_ : (x7_2 / 2 ^ min x9_3.toNat 64) = ji13 := hji13
                        have hji13z : x9_3 ≤ 64 → (x7_2 / 2 ^ x9_3.toNat) = ji13 := shr_small hji13
                        have H' := Aside0.mk H
                        clear H
                        go_wp2
                        go_roundg k3
                        case measure => have := HJ2.out; have := HK2.out; have := HK3.out; omega
                        case rel => exact ⟨(wrap64 (x8_3 + (Int.tmod (ji13) 2))), (wrap64 (x9_3 + 1)), (by first | rfl | (simp; done) | (simp only [← hji13] <;> (first | rfl | simp)) | (simp [*]; done)), (by first | rfl | (simp; done) | (simp [*]; done)), H', ⟨by have := HJ2.out; have := HK2.out; have := HK3.out; omega⟩, ⟨by (with_reducible repeat (first | apply Kd.R_alloc | apply Kd.R_drewN | apply Kd.R_drew)); first | exact HO_6.out | exact Kd.R_mono HO_6.out (fun k_ h_ => ne_own_len h_)⟩, ⟨by repeat (first | (with_reducible first | exact HB.out | apply below_alloc | apply pw_below_drewN | apply below_drew1) | exact HB.out)⟩⟩
                      · rw [if_neg c12] at H
                        exact absurd H (by simp)
                    · rw [if_neg c11] at H
                      have c11b0 : decide (x9_3 < a0) = false := decide_eq_false c11
                      clear c11
                      by_cases c14 : x8_3 ≤ a1
                      · rw [if_pos c14] at H
                        have c14b0 : decide (x8_3 ≤ a1) = true := decide_eq_true c14
                        clear c14
                        by_cases c15 : x6_2.length < 17592186044416
                        · rw [if_pos c15] at H
                          have LMc15 := Aside0.mk c15
                          clear c15
                          obtain ⟨y205, hy205⟩ : ∃ y_ : List Int, y_ = (x6_2 ++ [x7_2]) := ⟨_, rfl⟩
                          replace H : (neonwrightref05_Few.l0 k3 a0 a1 y205 (wrap64 (x7_2 + 1))) = some (r1, r2) := by first | (rw [hy205]; with_reducible exact H) | (have H2_ := (Option.bind_some _ _).symm.trans H; rw [hy205]; with_reducible exact H2_) | (have H2_ := (Option.bind_some _ _).symm.trans H; with_reducible exact H2_) | with_reducible exact H | (rw [hy205]; exact H) | exact H
                          have Ny205 := Aside0.mk hy205
                          clear hy205
                          have H' := Aside0.mk H
                          clear H
                          go_wp2_with (first | ((with_reducible refine gate_builtin (b := .append) (xs := #[.tmp 45, .tmp 47]) rfl ?_); at_builtin; refine Kd.R_append (Kd.int .i64) (w0 := w) w.heap.size rfl (.tmp 45) (.tmp 47) 25 3 (.int .i64 0) 8 rfl Tryd.underlying25 info3 rfl (by decide) (by omega) u6 x6_2 x7_2 [.int .i64 x7_2] (fun _ => True) (fun _ => False) rfl rfl ?aP (fun _ hk => hk.elim) ?aF ?aO ?aB ?aS ?aL ?_; (case aP => exact rfl); (case aB => exact (by repeat (first | (with_reducible first | exact HB.out | apply below_alloc | apply pw_below_drewN | apply below_drew1) | exact HB.out))); (case aF => exact (fun _ _ => trivial)); (case aO => exact (by (with_reducible repeat (first | apply Kd.R_alloc | apply Kd.R_drewN | apply Kd.R_drew)); exact HO_6.out)); (case aS => exact (below_size (by repeat (first | (with_reducible first | exact HB.out | apply below_alloc | apply pw_below_drewN | apply below_drew1) | exact HB.out)))); (case aL => have := LMc15.out; omega); intro v206 w16 ho hb hg hat; rw [← Ny205.out] at ho; have n0_ := Aside0.mk (hb); have n1_ := Aside0.mk (ho); clear HB; clear HO_6; have HB := n0_; have HO207 := n1_; clear n0_ n1_; clear ho hb hg hat))
                          go_roundg k3
                          case measure => have := HJ2.out; have := HK2.out; have := HK3.out; omega
                          case rel => exact ⟨(y205), (wrap64 (x7_2 + 1)), (by first | rfl | (simp; done) | (simp [*]; done)), H', ⟨by have := HJ2.out; have := HK2.out; have := HK3.out; omega⟩, ⟨by (with_reducible repeat (first | apply Kd.R_alloc | apply Kd.R_drewN | apply Kd.R_drew)); first | exact HO207.out | exact Kd.R_mono HO207.out (fun k_ h_ => ne_own_len h_)⟩, ⟨by repeat (first | (with_reducible first | exact HB.out | apply below_alloc | apply pw_below_drewN | apply below_drew1) | exact HB.out)⟩⟩
                        · rw [if_neg c15] at H
                          exact absurd H (by simp)
                      · rw [if_neg c14] at H
                        have c14b0 : decide (x8_3 ≤ a1) = false := decide_eq_false c14
                        clear c14
                        have H' := Aside0.mk H
                        clear H
                        go_wp2
                        go_roundg k3
                        case measure => have := HJ2.out; have := HK2.out; have := HK3.out; omega
                        case rel => exact ⟨(x6_2), (wrap64 (x7_2 + 1)), (by first | rfl | (simp; done) | (simp [*]; done)), H', ⟨by have := HJ2.out; have := HK2.out; have := HK3.out; omega⟩, ⟨by (with_reducible repeat (first | apply Kd.R_alloc | apply Kd.R_drewN | apply Kd.R_drew)); first | exact HO_6.out | exact Kd.R_mono HO_6.out (fun k_ h_ => ne_own_len h_)⟩, ⟨by repeat (first | (with_reducible first | exact HB.out | apply below_alloc | apply pw_below_drewN | apply below_drew1) | exact HB.out)⟩⟩
              · rw [if_neg c10] at H
                have c10b0 : decide (x7_2 < (ji9)) = false := decide_eq_false c10
                clear c10
                simp only [Option.some.injEq, Prod.mk.injEq] at H
                obtain ⟨rfl, rfl⟩ := H
                go_wp2
                go_ret2
                exact ⟨_, by first | rfl | (simp [errW_none, errW_some] <;> rfl) | (simp only [← hji9]; first | rfl | (simp [errW_none, errW_some] <;> rfl)) | (simp [*, errW_none, errW_some] <;> rfl), by (with_reducible repeat (first | apply Kd.R_alloc | apply Kd.R_drewN | apply Kd.R_drew)); exact HO_6.out, by repeat (first | (with_reducible first | exact HB.out | apply below_alloc | apply pw_below_drewN | apply below_drew1) | exact HB.out)⟩
            · rw [if_neg c8] at H
              exact absurd H (by simp)

end Go.Proofs.YtglajokjiphafaaDoor.P

namespace Go.Proofs.YtglajokjiphafaaDoor.P
open Go.RowKit Go.Proofs.YtglajokjiphafaaDoorW.PrintWords Go.Proofs.YtglajokjiphafaaDoorW.PrintLast Go.Proofs.YtglajokjiphafaaDoorW.PrintMore
attribute [local go_sem] max2_int min2_int max_two min_two max_three min_three max_four min_four   -- for this text's walks alone
set_option linter.unusedVariables false
set_option linter.unusedSimpArgs false

/-! ### neonwrightlaw05_FindInformation: function 5 -/
mutual
def neonwrightlaw05_FindInformation.j0 : Nat → Int → Int → Int → Bool → Option (Bool)
  | 0, _, _, _, _ => none
  | k + 1, x5, x6, x7, x48 => if x48 = true then (some false) else (if x6 > 0 then ((find_Fewest.f x5 (wrap64 (x6 - 1))).bind fun bt214 => (if bt214.2 = 0 then (if bt214.1 > x7 then (some false) else (neonwrightlaw05_FindInformation.j1 k x5 x6 x7)) else (some false))) else (neonwrightlaw05_FindInformation.j1 k x5 x6 x7))
def neonwrightlaw05_FindInformation.j1 : Nat → Int → Int → Int → Option (Bool)
  | 0, _, _, _ => none
  | k + 1, x5, x6, x7 => if x5 > x6 then (neonwrightlaw05_FindInformation.j2 k x5 x6 x7 (decide (x5 > 1))) else (neonwrightlaw05_FindInformation.j2 k x5 x6 x7 false)
def neonwrightlaw05_FindInformation.j2 : Nat → Int → Int → Int → Bool → Option (Bool)
  | 0, _, _, _, _ => none
  | k + 1, x5, x6, x7, x71 => if x71 = true then ((find_Fewest.f (wrap64 (x5 - 1)) x6).bind fun bt216 => (if bt216.2 = 0 then (neonwrightlaw05_FindInformation.j3 k x5 x6 x7 (decide (bt216.1 > x7))) else (neonwrightlaw05_FindInformation.j3 k x5 x6 x7 true))) else (if x6 = 1 then (if 0 ≤ x7 then (if (shl .i64 1 x7) < (wrap64 (x5 + 1)) then (some false) else (if 0 ≤ (wrap64 (x7 - 1)) then (if (shl .i64 1 (wrap64 (x7 - 1))) ≥ (wrap64 (x5 + 1)) then (some false) else (if x6 < x5 then (if x6 > 0 then ((neonwrightlaw05_alive.f k).bind fun t226 => (some t226)) else (if x7 = 0 then ((neonwrightlaw05_alive.f k).bind fun t227 => (some t227)) else (some false))) else (if x7 = x5 then (if x6 > 0 then ((neonwrightlaw05_alive.f k).bind fun t228 => (some t228)) else (if x7 = 0 then ((neonwrightlaw05_alive.f k).bind fun t229 => (some t229)) else (some false))) else (some false)))) else (none))) else (none)) else (if x6 < x5 then (if x6 > 0 then ((neonwrightlaw05_alive.f k).bind fun t230 => (some t230)) else (if x7 = 0 then ((neonwrightlaw05_alive.f k).bind fun t231 => (some t231)) else (some false))) else (if x7 = x5 then (if x6 > 0 then ((neonwrightlaw05_alive.f k).bind fun t232 => (some t232)) else (if x7 = 0 then ((neonwrightlaw05_alive.f k).bind fun t233 => (some t233)) else (some false))) else (some false))))
def neonwrightlaw05_FindInformation.j3 : Nat → Int → Int → Int → Bool → Option (Bool)
  | 0, _, _, _, _ => none
  | k + 1, x5, x6, x7, x85 => if x85 = true then (some false) else (if x6 = 1 then (if 0 ≤ x7 then (if (shl .i64 1 x7) < (wrap64 (x5 + 1)) then (some false) else (if 0 ≤ (wrap64 (x7 - 1)) then (if (shl .i64 1 (wrap64 (x7 - 1))) ≥ (wrap64 (x5 + 1)) then (some false) else (if x6 < x5 then (if x6 > 0 then ((neonwrightlaw05_alive.f k).bind fun t218 => (some t218)) else (if x7 = 0 then ((neonwrightlaw05_alive.f k).bind fun t219 => (some t219)) else (some false))) else (if x7 = x5 then (if x6 > 0 then ((neonwrightlaw05_alive.f k).bind fun t220 => (some t220)) else (if x7 = 0 then ((neonwrightlaw05_alive.f k).bind fun t221 => (some t221)) else (some false))) else (some false)))) else (none))) else (none)) else (if x6 < x5 then (if x6 > 0 then ((neonwrightlaw05_alive.f k).bind fun t222 => (some t222)) else (if x7 = 0 then ((neonwrightlaw05_alive.f k).bind fun t223 => (some t223)) else (some false))) else (if x7 = x5 then (if x6 > 0 then ((neonwrightlaw05_alive.f k).bind fun t224 => (some t224)) else (if x7 = 0 then ((neonwrightlaw05_alive.f k).bind fun t225 => (some t225)) else (some false))) else (some false))))
end
def neonwrightlaw05_FindInformation.f (k : Nat) (a0 : Int) (a1 : Int) : Option (Bool) := if (wrap64 ((wrap64 (1 + (wrap64 (Int.tmod a0 5)))) + 1)) = 0 then (none) else ((find_Fewest.f (wrap64 (1 + (wrap64 (Int.tmod a0 5)))) (Int.tmod (wrap64 (a1)) (wrap64 ((wrap64 (1 + (wrap64 (Int.tmod a0 5)))) + 1)))).bind fun bt208 => ((neonwrightref05_Few.f k (wrap64 (1 + (wrap64 (Int.tmod a0 5)))) (Int.tmod (wrap64 (a1)) (wrap64 ((wrap64 (1 + (wrap64 (Int.tmod a0 5)))) + 1)))).bind fun bt210 => (if bt208.2 = 0 then (if bt210.2 = true then (if 0 ≤ bt208.1 then (neonwrightlaw05_FindInformation.j0 k (wrap64 (1 + (wrap64 (Int.tmod a0 5)))) (Int.tmod (wrap64 (a1)) (wrap64 ((wrap64 (1 + (wrap64 (Int.tmod a0 5)))) + 1))) bt208.1 (decide ((shl .i64 1 bt208.1) < (bt210.1.length : Int)))) else (none)) else (neonwrightlaw05_FindInformation.j0 k (wrap64 (1 + (wrap64 (Int.tmod a0 5)))) (Int.tmod (wrap64 (a1)) (wrap64 ((wrap64 (1 + (wrap64 (Int.tmod a0 5)))) + 1))) bt208.1 true)) else (neonwrightlaw05_FindInformation.j0 k (wrap64 (1 + (wrap64 (Int.tmod a0 5)))) (Int.tmod (wrap64 (a1)) (wrap64 ((wrap64 (1 + (wrap64 (Int.tmod a0 5)))) + 1))) bt208.1 true))))
theorem neonwrightlaw05_FindInformation.mono_l : ∀ k, (∀ y0 y1 y2 y3, LeO (neonwrightlaw05_FindInformation.j0 k y0 y1 y2 y3) (neonwrightlaw05_FindInformation.j0 (k + 1) y0 y1 y2 y3)) ∧ (∀ y0 y1 y2, LeO (neonwrightlaw05_FindInformation.j1 k y0 y1 y2) (neonwrightlaw05_FindInformation.j1 (k + 1) y0 y1 y2)) ∧ (∀ y0 y1 y2 y3, LeO (neonwrightlaw05_FindInformation.j2 k y0 y1 y2 y3) (neonwrightlaw05_FindInformation.j2 (k + 1) y0 y1 y2 y3)) ∧ (∀ y0 y1 y2 y3, LeO (neonwrightlaw05_FindInformation.j3 k y0 y1 y2 y3) (neonwrightlaw05_FindInformation.j3 (k + 1) y0 y1 y2 y3))
  | 0 => ⟨fun _ _ _ _ r h => by simp [neonwrightlaw05_FindInformation.j0] at h, fun _ _ _ r h => by simp [neonwrightlaw05_FindInformation.j1] at h, fun _ _ _ _ r h => by simp [neonwrightlaw05_FindInformation.j2] at h, fun _ _ _ _ r h => by simp [neonwrightlaw05_FindInformation.j3] at h⟩
  | k + 1 => by
    obtain ⟨ih0, ih1, ih2, ih3⟩ := neonwrightlaw05_FindInformation.mono_l k
    refine ⟨?_, ?_, ?_, ?_⟩
    · intro y0 y1 y2 y3
      unfold neonwrightlaw05_FindInformation.j0
      repeat' first
      | (with_reducible exact ih0 _ _ _ _)
      | (with_reducible exact ih1 _ _ _)
      | (with_reducible exact ih2 _ _ _ _)
      | (with_reducible exact ih3 _ _ _ _)
      | (with_reducible exact neonwrightlaw05_alive.mono _)
      | (with_reducible exact neonwrightref05_Few.mono _ _ _)
      | (with_reducible exact LeO.refl _)
      | (with_reducible exact LeO.none _)
      | (with_reducible refine LeO.ite ?_ ?_)
      | (with_reducible refine LeO.bind ?_ (fun _ => ?_))
      | exact ih0 _ _ _ _
      | exact ih1 _ _ _
      | exact ih2 _ _ _ _
      | exact ih3 _ _ _ _
      | exact neonwrightlaw05_alive.mono _
      | exact neonwrightref05_Few.mono _ _ _
      | exact LeO.none _
      | refine LeO.ite ?_ ?_
      | refine LeO.bind ?_ (fun _ => ?_)
    · intro y0 y1 y2
      unfold neonwrightlaw05_FindInformation.j1
      repeat' first
      | (with_reducible exact ih0 _ _ _ _)
      | (with_reducible exact ih1 _ _ _)
      | (with_reducible exact ih2 _ _ _ _)
      | (with_reducible exact ih3 _ _ _ _)
      | (with_reducible exact neonwrightlaw05_alive.mono _)
      | (with_reducible exact neonwrightref05_Few.mono _ _ _)
      | (with_reducible exact LeO.refl _)
      | (with_reducible exact LeO.none _)
      | (with_reducible refine LeO.ite ?_ ?_)
      | (with_reducible refine LeO.bind ?_ (fun _ => ?_))
      | exact ih0 _ _ _ _
      | exact ih1 _ _ _
      | exact ih2 _ _ _ _
      | exact ih3 _ _ _ _
      | exact neonwrightlaw05_alive.mono _
      | exact neonwrightref05_Few.mono _ _ _
      | exact LeO.none _
      | refine LeO.ite ?_ ?_
      | refine LeO.bind ?_ (fun _ => ?_)
    · intro y0 y1 y2 y3
      unfold neonwrightlaw05_FindInformation.j2
      repeat' first
      | (with_reducible exact ih0 _ _ _ _)
      | (with_reducible exact ih1 _ _ _)
      | (with_reducible exact ih2 _ _ _ _)
      | (with_reducible exact ih3 _ _ _ _)
      | (with_reducible exact neonwrightlaw05_alive.mono _)
      | (with_reducible exact neonwrightref05_Few.mono _ _ _)
      | (with_reducible exact LeO.refl _)
      | (with_reducible exact LeO.none _)
      | (with_reducible refine LeO.ite ?_ ?_)
      | (with_reducible refine LeO.bind ?_ (fun _ => ?_))
      | exact ih0 _ _ _ _
      | exact ih1 _ _ _
      | exact ih2 _ _ _ _
      | exact ih3 _ _ _ _
      | exact neonwrightlaw05_alive.mono _
      | exact neonwrightref05_Few.mono _ _ _
      | exact LeO.none _
      | refine LeO.ite ?_ ?_
      | refine LeO.bind ?_ (fun _ => ?_)
    · intro y0 y1 y2 y3
      unfold neonwrightlaw05_FindInformation.j3
      repeat' first
      | (with_reducible exact ih0 _ _ _ _)
      | (with_reducible exact ih1 _ _ _)
      | (with_reducible exact ih2 _ _ _ _)
      | (with_reducible exact ih3 _ _ _ _)
      | (with_reducible exact neonwrightlaw05_alive.mono _)
      | (with_reducible exact neonwrightref05_Few.mono _ _ _)
      | (with_reducible exact LeO.refl _)
      | (with_reducible exact LeO.none _)
      | (with_reducible refine LeO.ite ?_ ?_)
      | (with_reducible refine LeO.bind ?_ (fun _ => ?_))
      | exact ih0 _ _ _ _
      | exact ih1 _ _ _
      | exact ih2 _ _ _ _
      | exact ih3 _ _ _ _
      | exact neonwrightlaw05_alive.mono _
      | exact neonwrightref05_Few.mono _ _ _
      | exact LeO.none _
      | refine LeO.ite ?_ ?_
      | refine LeO.bind ?_ (fun _ => ?_)
theorem neonwrightlaw05_FindInformation.mono : ∀ a0 a1 k, LeO (neonwrightlaw05_FindInformation.f k a0 a1) (neonwrightlaw05_FindInformation.f (k + 1) a0 a1) := by
  intro a0 a1 k
  obtain ⟨ih0, ih1, ih2, ih3⟩ := neonwrightlaw05_FindInformation.mono_l k
  unfold neonwrightlaw05_FindInformation.f
  repeat' first
      | (with_reducible exact ih0 _ _ _ _)
      | (with_reducible exact ih1 _ _ _)
      | (with_reducible exact ih2 _ _ _ _)
      | (with_reducible exact ih3 _ _ _ _)
      | (with_reducible exact neonwrightlaw05_alive.mono _)
      | (with_reducible exact neonwrightref05_Few.mono _ _ _)
      | (with_reducible exact LeO.refl _)
      | (with_reducible exact LeO.none _)
      | (with_reducible refine LeO.ite ?_ ?_)
      | (with_reducible refine LeO.bind ?_ (fun _ => ?_))
      | exact ih0 _ _ _ _
      | exact ih1 _ _ _
      | exact ih2 _ _ _ _
      | exact ih3 _ _ _ _
      | exact neonwrightlaw05_alive.mono _
      | exact neonwrightref05_Few.mono _ _ _
      | exact LeO.none _
      | refine LeO.ite ?_ ?_
      | refine LeO.bind ?_ (fun _ => ?_)
set_option maxHeartbeats 8000000 in
set_option maxRecDepth 100000 in
theorem neonwrightlaw05_FindInformation.calls (k : Nat) (a0 : Int) (a1 : Int) (r : Bool) (w : World) (hT : TabG w) (h : neonwrightlaw05_FindInformation.f k a0 a1 = some r) :
    Calls Tryd.prog 5 #[.int .u8 a0, .int .u8 a1] w fun e w' => e = .returned (.bool r) ∧ Below w.heap.size w w' := by
  have HB := Aside0.mk (Below.refl w.heap.size w)
  have HTab := Aside0.mk hT
  clear hT
  have H : (if (wrap64 ((wrap64 (1 + (wrap64 (Int.tmod a0 5)))) + 1)) = 0 then (none) else ((find_Fewest.f (wrap64 (1 + (wrap64 (Int.tmod a0 5)))) (Int.tmod (wrap64 (a1)) (wrap64 ((wrap64 (1 + (wrap64 (Int.tmod a0 5)))) + 1)))).bind fun bt208 => ((neonwrightref05_Few.f k (wrap64 (1 + (wrap64 (Int.tmod a0 5)))) (Int.tmod (wrap64 (a1)) (wrap64 ((wrap64 (1 + (wrap64 (Int.tmod a0 5)))) + 1)))).bind fun bt210 => (if bt208.2 = 0 then (if bt210.2 = true then (if 0 ≤ bt208.1 then (neonwrightlaw05_FindInformation.j0 k (wrap64 (1 + (wrap64 (Int.tmod a0 5)))) (Int.tmod (wrap64 (a1)) (wrap64 ((wrap64 (1 + (wrap64 (Int.tmod a0 5)))) + 1))) bt208.1 (decide ((shl .i64 1 bt208.1) < (bt210.1.length : Int)))) else (none)) else (neonwrightlaw05_FindInformation.j0 k (wrap64 (1 + (wrap64 (Int.tmod a0 5)))) (Int.tmod (wrap64 (a1)) (wrap64 ((wrap64 (1 + (wrap64 (Int.tmod a0 5)))) + 1))) bt208.1 true)) else (neonwrightlaw05_FindInformation.j0 k (wrap64 (1 + (wrap64 (Int.tmod a0 5)))) (Int.tmod (wrap64 (a1)) (wrap64 ((wrap64 (1 + (wrap64 (Int.tmod a0 5)))) + 1))) bt208.1 true))))) = some r := h
  clear h
  by_cases c3 : (wrap64 ((wrap64 (1 + (wrap64 (Int.tmod a0 5)))) + 1)) = 0
  · rw [if_pos c3] at H
    exact absurd H (by simp)
  · rw [if_neg c3] at H
    have c3b0 : ((wrap64 ((wrap64 (1 + (wrap64 (Int.tmod a0 5)))) + 1)) == 0) = false := beq_eq_false_iff_ne.mpr c3
    have c3b1 : ((wrap64 ((wrap64 (1 + (wrap64 (Int.tmod a0 5)))) + 1)) != 0) = true := bne_iff_ne.mpr c3
    replace H := Option.bind_eq_some_iff.mp H
    obtain ⟨⟨t208, t209⟩, A40, H⟩ := H
    replace H : ((neonwrightref05_Few.f k (wrap64 (1 + (wrap64 (Int.tmod a0 5)))) (Int.tmod (wrap64 (a1)) (wrap64 ((wrap64 (1 + (wrap64 (Int.tmod a0 5)))) + 1)))).bind fun bt210 => (if t209 = 0 then (if bt210.2 = true then (if 0 ≤ t208 then (neonwrightlaw05_FindInformation.j0 k (wrap64 (1 + (wrap64 (Int.tmod a0 5)))) (Int.tmod (wrap64 (a1)) (wrap64 ((wrap64 (1 + (wrap64 (Int.tmod a0 5)))) + 1))) t208 (decide ((shl .i64 1 t208) < (bt210.1.length : Int)))) else (none)) else (neonwrightlaw05_FindInformation.j0 k (wrap64 (1 + (wrap64 (Int.tmod a0 5)))) (Int.tmod (wrap64 (a1)) (wrap64 ((wrap64 (1 + (wrap64 (Int.tmod a0 5)))) + 1))) t208 true)) else (neonwrightlaw05_FindInformation.j0 k (wrap64 (1 + (wrap64 (Int.tmod a0 5)))) (Int.tmod (wrap64 (a1)) (wrap64 ((wrap64 (1 + (wrap64 (Int.tmod a0 5)))) + 1))) t208 true))) = some r := H
    have A4 := Aside0.mk A40
    clear A40
    replace H := Option.bind_eq_some_iff.mp H
    obtain ⟨⟨t210, t211⟩, A50, H⟩ := H
    replace H : (if t209 = 0 then (if t211 = true then (if 0 ≤ t208 then (neonwrightlaw05_FindInformation.j0 k (wrap64 (1 + (wrap64 (Int.tmod a0 5)))) (Int.tmod (wrap64 (a1)) (wrap64 ((wrap64 (1 + (wrap64 (Int.tmod a0 5)))) + 1))) t208 (decide ((shl .i64 1 t208) < (t210.length : Int)))) else (none)) else (neonwrightlaw05_FindInformation.j0 k (wrap64 (1 + (wrap64 (Int.tmod a0 5)))) (Int.tmod (wrap64 (a1)) (wrap64 ((wrap64 (1 + (wrap64 (Int.tmod a0 5)))) + 1))) t208 true)) else (neonwrightlaw05_FindInformation.j0 k (wrap64 (1 + (wrap64 (Int.tmod a0 5)))) (Int.tmod (wrap64 (a1)) (wrap64 ((wrap64 (1 + (wrap64 (Int.tmod a0 5)))) + 1))) t208 true)) = some r := H
    have A5 := Aside0.mk A50
    clear A50
    have HC6 := Aside0.mk H
    clear H
    go_enter Tryd.func5, Tryd.ntmps5
    go_upto_region 5 with (first | ((with_reducible refine gate_callee (f := 22) rfl ?_); refine goesL_ (some 27) rfl rfl Tryd.func22 (by kernel_rfl) rfl #[.int .i64 (wrap64 (1 + (wrap64 (Int.tmod a0 5)))), .int .i64 (Int.tmod (wrap64 (a1)) (wrap64 ((wrap64 (1 + (wrap64 (Int.tmod a0 5)))) + 1)))] rfl (by (try simp only [List.map_toArray, List.map_cons, List.map_nil]); first | done | rfl | (simp only [List.length_drop, List.length_take]; rfl)) ?_; (with_reducible refine (find_Fewest.calls (wrap64 (1 + (wrap64 (Int.tmod a0 5)))) (Int.tmod (wrap64 (a1)) (wrap64 ((wrap64 (1 + (wrap64 (Int.tmod a0 5)))) + 1))) t208 t209 _ (HTab.out.below (by repeat (first | (with_reducible first | exact HB.out | apply below_alloc | apply pw_below_drewN | apply below_drew1) | exact HB.out))) A4.out).mono ?_); rintro e w7 ⟨rfl, hb⟩; refine ⟨_, rfl, ?_⟩; have n0_ := Aside0.mk (below_step (by repeat (first | (with_reducible first | exact HB.out | apply below_alloc | apply pw_below_drewN | apply below_drew1) | exact HB.out)) hb); clear HB; have HB := n0_; clear n0_; (try clear hb); (try clear hb2); (try clear hk); (try clear hi)) | ((with_reducible refine gate_callee (f := 23) rfl ?_); refine goesL_ (some 33) rfl rfl Tryd.func23 (by kernel_rfl) rfl #[.int .i64 (wrap64 (1 + (wrap64 (Int.tmod a0 5)))), .int .i64 (Int.tmod (wrap64 (a1)) (wrap64 ((wrap64 (1 + (wrap64 (Int.tmod a0 5)))) + 1)))] rfl (by (try simp only [List.map_toArray, List.map_cons, List.map_nil]); first | done | rfl | (simp only [List.length_drop, List.length_take]; rfl)) ?_; (with_reducible refine (neonwrightref05_Few.calls k (wrap64 (1 + (wrap64 (Int.tmod a0 5)))) (Int.tmod (wrap64 (a1)) (wrap64 ((wrap64 (1 + (wrap64 (Int.tmod a0 5)))) + 1))) t210 t211 _ A5.out).mono ?_); rintro e w8 ⟨v212, rfl, ho0, hb⟩; refine ⟨_, rfl, ?_⟩; have n0_ := Aside0.mk (Kd.R_lower ho0 (below_size (by repeat (first | (with_reducible first | exact HB.out | apply below_alloc | apply pw_below_drewN | apply below_drew1) | exact HB.out)))); have n1_ := Aside0.mk (below_step (by repeat (first | (with_reducible first | exact HB.out | apply below_alloc | apply pw_below_drewN | apply below_drew1) | exact HB.out)) hb); clear HB; have HO213 := n0_; have HB := n1_; clear n0_ n1_; (try clear hb); (try clear hb2); (try clear hk); (try clear hi); (try clear ho0)))
    (try simp only [Act.put, List.setIfInBounds_toArray, List.set_cons_zero, List.set_cons_succ])
    go_cut [48] (fun v48 wc => ∃ (kq : Nat) (x48_5 : Bool), v48 = .bool x48_5 ∧ Aside0 (neonwrightlaw05_FindInformation.j0 kq (wrap64 (1 + (wrap64 (Int.tmod a0 5)))) (Int.tmod (wrap64 (a1)) (wrap64 ((wrap64 (1 + (wrap64 (Int.tmod a0 5)))) + 1))) t208 x48_5 = some r) ∧ Aside0 (kq ≤ k) ∧ Aside0 (Below w.heap.size w wc))
    case first =>
      have H := HC6.out
      clear HC6
      by_cases c9 : t209 = 0
      · rw [if_pos c9] at H
        have c9b0 : (t209 == 0) = true := beq_iff_eq.mpr c9
        have c9b1 : (t209 != 0) = false := bne_eq_false_iff_eq.mpr c9
        clear c9
        (first | rw [c9b0] | (simp only [i64_w, i32_w]; rw [c9b0]) | skip)
        by_cases c10 : t211 = true
        · subst c10
          have H1 : (if 0 ≤ t208 then (neonwrightlaw05_FindInformation.j0 k (wrap64 (1 + (wrap64 (Int.tmod a0 5)))) (Int.tmod (wrap64 (a1)) (wrap64 ((wrap64 (1 + (wrap64 (Int.tmod a0 5)))) + 1))) t208 (decide ((shl .i64 1 t208) < (t210.length : Int)))) else (none)) = some r := by rw [if_pos rfl] at H; exact H
          clear H
          have H := H1
          clear H1
          by_cases c11 : 0 ≤ t208
          · rw [if_pos c11] at H
            have c11b0 := eq_true c11
            have c11b1 : decide (0 ≤ t208) = true := decide_eq_true c11
            clear c11
            obtain ⟨ji12, hji12⟩ : ∃ j_ : Int, (shl .i64 1 t208) = j_ := ⟨_, rfl⟩
            replace H : (neonwrightlaw05_FindInformation.j0 k (wrap64 (1 + (wrap64 (Int.tmod a0 5)))) (Int.tmod (wrap64 (a1)) (wrap64 ((wrap64 (1 + (wrap64 (Int.tmod a0 5)))) + 1))) t208 (decide ((ji12) < (t210.length : Int)))) = some r := by first | (rw [hji12] at H; exact H) | (simp only [hji12] at H ⊢; exact H)
            have hji12_ : (IntKind.i64.wrap (1 * 2 ^ min t208.toNat 64)) = ji12 := hji12
            have hji12z : t208 ≤ 64 → (IntKind.i64.wrap (1 * 2 ^ t208.toNat)) = ji12 := shl_small hji12
            have hji12u : (IntKind.i64.wrap (2 ^ min t208.toNat 64)) = ji12 := by have h_ := hji12_; rw [Int.one_mul] at h_; exact h_
            have hji12v : t208 ≤ 64 → (IntKind.i64.wrap (2 ^ t208.toNat)) = ji12 := fun hle_ => by have h_ := hji12z hle_; rw [Int.one_mul] at h_; exact h_
            have hji12y : (wrap64 (1 * 2 ^ min t208.toNat 64)) = ji12 := (i64_w _).symm.trans hji12_
            have hji12x : t208 ≤ 64 → (wrap64 (1 * 2 ^ t208.toNat)) = ji12 := fun h_ => (i64_w _).symm.trans (hji12z h_)
            have H' := Aside0.mk H
            clear H
            obtain ⟨Ao13, co13, eo13⟩ := Kd.R_slice HO213.out
            subst eo13
            go_wp2
            go_meet
            case rel => exact ⟨_, (decide ((ji12) < (t210.length : Int))), (by first | rfl | (simp; done) | (simp only [← hji12] <;> (first | rfl | simp)) | (simp [*]; done)), H', ⟨by first | omega | exact Nat.le_refl _⟩, ⟨by repeat (first | (with_reducible first | exact HB.out | apply below_alloc | apply pw_below_drewN | apply below_drew1) | exact HB.out)⟩⟩
          · rw [if_neg c11] at H
            exact absurd H (by simp)
        · replace c10 := Bool.eq_false_iff.mpr c10
          subst c10
          have H1 : (neonwrightlaw05_FindInformation.j0 k (wrap64 (1 + (wrap64 (Int.tmod a0 5)))) (Int.tmod (wrap64 (a1)) (wrap64 ((wrap64 (1 + (wrap64 (Int.tmod a0 5)))) + 1))) t208 true) = some r := by rw [if_neg (show ¬ (false = true) by decide)] at H; exact H
          clear H
          have H := H1
          clear H1
          have H' := Aside0.mk H
          clear H
          go_wp2
          go_meet
          case rel => exact ⟨_, (true), (by first | rfl | (simp; done) | (simp [*]; done)), H', ⟨by first | omega | exact Nat.le_refl _⟩, ⟨by repeat (first | (with_reducible first | exact HB.out | apply below_alloc | apply pw_below_drewN | apply below_drew1) | exact HB.out)⟩⟩
      · rw [if_neg c9] at H
        have c9b0 : (t209 == 0) = false := beq_eq_false_iff_ne.mpr c9
        have c9b1 : (t209 != 0) = true := bne_iff_ne.mpr c9
        (first | rw [c9b0] | (simp only [i64_w, i32_w]; rw [c9b0]) | skip)
        have H' := Aside0.mk H
        clear H
        go_wp2
        go_meet
        case rel => exact ⟨_, (true), (by first | rfl | (simp; done) | (simp [*]; done)), H', ⟨by first | omega | exact Nat.le_refl _⟩, ⟨by repeat (first | (with_reducible first | exact HB.out | apply below_alloc | apply pw_below_drewN | apply below_drew1) | exact HB.out)⟩⟩
    case rest =>
      clear HC6
      try clear c1
      try clear c2
      try clear p2
      try clear c3
      try clear c3b0
      try clear c3b1
      try clear c5
      try clear p6
      try clear c9
      try clear c9b0
      try clear c9b1
      try clear c10
      try clear c11
      try clear c11b0
      try clear c11b1
      obtain ⟨kq, x48_5, rfl, HA, HJ5, HB⟩ := hcut
      cases kq with
      | zero => exact absurd HA.out (by simp [neonwrightlaw05_FindInformation.j0])
      | succ kj5 =>
        have H := HA.out
        clear HA
        simp only [neonwrightlaw05_FindInformation.j0] at H
        by_cases c14 : x48_5 = true
        · subst c14
          have H1 : (some false) = some r := by rw [if_pos rfl] at H; exact H
          clear H
          have H := H1
          clear H1
          obtain rfl := Option.some.inj H
          go_wp2
          go_ret
          exact ⟨by first | rfl | (simp [errW_none, errW_some] <;> rfl) | (simp [*, errW_none, errW_some] <;> rfl), by repeat (first | (with_reducible first | exact HB.out | apply below_alloc | apply pw_below_drewN | apply below_drew1) | exact HB.out)⟩
        · replace c14 := Bool.eq_false_iff.mpr c14
          subst c14
          have H1 : (if (Int.tmod (wrap64 (a1)) (wrap64 ((wrap64 (1 + (wrap64 (Int.tmod a0 5)))) + 1))) > 0 then ((find_Fewest.f (wrap64 (1 + (wrap64 (Int.tmod a0 5)))) (wrap64 ((Int.tmod (wrap64 (a1)) (wrap64 ((wrap64 (1 + (wrap64 (Int.tmod a0 5)))) + 1))) - 1))).bind fun bt214 => (if bt214.2 = 0 then (if bt214.1 > t208 then (some false) else (neonwrightlaw05_FindInformation.j1 kj5 (wrap64 (1 + (wrap64 (Int.tmod a0 5)))) (Int.tmod (wrap64 (a1)) (wrap64 ((wrap64 (1 + (wrap64 (Int.tmod a0 5)))) + 1))) t208)) else (some false))) else (neonwrightlaw05_FindInformation.j1 kj5 (wrap64 (1 + (wrap64 (Int.tmod a0 5)))) (Int.tmod (wrap64 (a1)) (wrap64 ((wrap64 (1 + (wrap64 (Int.tmod a0 5)))) + 1))) t208)) = some r := by rw [if_neg (show ¬ (false = true) by decide)] at H; exact H
          clear H
          have H := H1
          clear H1
          have HC15 := Aside0.mk H
          clear H
          go_upto_if 50 with (fail)
          go_cut [] (fun wc => ∃ (kq : Nat), Aside0 (neonwrightlaw05_FindInformation.j1 kq (wrap64 (1 + (wrap64 (Int.tmod a0 5)))) (Int.tmod (wrap64 (a1)) (wrap64 ((wrap64 (1 + (wrap64 (Int.tmod a0 5)))) + 1))) t208 = some r) ∧ Aside0 (kq ≤ kj5) ∧ Aside0 (Below w.heap.size w wc))
          case first =>
            have H := HC15.out
            clear HC15
            by_cases c16 : (Int.tmod (wrap64 (a1)) (wrap64 ((wrap64 (1 + (wrap64 (Int.tmod a0 5)))) + 1))) > 0
            · rw [if_pos c16] at H
              have c16b0 : decide (0 < (Int.tmod (wrap64 (a1)) (wrap64 ((wrap64 (1 + (wrap64 (Int.tmod a0 5)))) + 1)))) = true := decide_eq_true c16
              clear c16
              (first | rw [c16b0] | (simp only [i64_w, i32_w]; rw [c16b0]) | skip)
              replace H := Option.bind_eq_some_iff.mp H
              obtain ⟨⟨t214, t215⟩, A170, H⟩ := H
              replace H : (if t215 = 0 then (if t214 > t208 then (some false) else (neonwrightlaw05_FindInformation.j1 kj5 (wrap64 (1 + (wrap64 (Int.tmod a0 5)))) (Int.tmod (wrap64 (a1)) (wrap64 ((wrap64 (1 + (wrap64 (Int.tmod a0 5)))) + 1))) t208)) else (some false)) = some r := H
              have A17 := Aside0.mk A170
              clear A170
              by_cases c18 : t215 = 0
              · rw [if_pos c18] at H
                have c18b0 : (t215 == 0) = true := beq_iff_eq.mpr c18
                have c18b1 : (t215 != 0) = false := bne_eq_false_iff_eq.mpr c18
                clear c18
                by_cases c19 : t214 > t208
                · rw [if_pos c19] at H
                  have c19b0 : decide (t208 < t214) = true := decide_eq_true c19
                  clear c19
                  obtain rfl := Option.some.inj H
                  go_wp2_with (first | ((with_reducible refine gate_callee (f := 22) rfl ?_); refine goesL_ (some 55) rfl rfl Tryd.func22 (by kernel_rfl) rfl #[.int .i64 (wrap64 (1 + (wrap64 (Int.tmod a0 5)))), .int .i64 (wrap64 ((Int.tmod (wrap64 (a1)) (wrap64 ((wrap64 (1 + (wrap64 (Int.tmod a0 5)))) + 1))) - 1))] rfl (by (try simp only [List.map_toArray, List.map_cons, List.map_nil]); first | done | rfl | (simp only [List.length_drop, List.length_take]; rfl)) ?_; (with_reducible refine (find_Fewest.calls (wrap64 (1 + (wrap64 (Int.tmod a0 5)))) (wrap64 ((Int.tmod (wrap64 (a1)) (wrap64 ((wrap64 (1 + (wrap64 (Int.tmod a0 5)))) + 1))) - 1)) t214 t215 _ (HTab.out.below (by repeat (first | (with_reducible first | exact HB.out | apply below_alloc | apply pw_below_drewN | apply below_drew1) | exact HB.out))) A17.out).mono ?_); rintro e w20 ⟨rfl, hb⟩; refine ⟨_, rfl, ?_⟩; have n0_ := Aside0.mk (below_step (by repeat (first | (with_reducible first | exact HB.out | apply below_alloc | apply pw_below_drewN | apply below_drew1) | exact HB.out)) hb); clear HB; have HB := n0_; clear n0_; (try clear hb); (try clear hb2); (try clear hk); (try clear hi)))
                  go_ret
                  exact ⟨by first | rfl | (simp [errW_none, errW_some] <;> rfl) | (simp [*, errW_none, errW_some] <;> rfl), by repeat (first | (with_reducible first | exact HB.out | apply below_alloc | apply pw_below_drewN | apply below_drew1) | exact HB.out)⟩
                · rw [if_neg c19] at H
                  have c19b0 : decide (t208 < t214) = false := decide_eq_false c19
                  clear c19
                  have H' := Aside0.mk H
                  clear H
                  go_wp2_with (first | ((with_reducible refine gate_callee (f := 22) rfl ?_); refine goesL_ (some 55) rfl rfl Tryd.func22 (by kernel_rfl) rfl #[.int .i64 (wrap64 (1 + (wrap64 (Int.tmod a0 5)))), .int .i64 (wrap64 ((Int.tmod (wrap64 (a1)) (wrap64 ((wrap64 (1 + (wrap64 (Int.tmod a0 5)))) + 1))) - 1))] rfl (by (try simp only [List.map_toArray, List.map_cons, List.map_nil]); first | done | rfl | (simp only [List.length_drop, List.length_take]; rfl)) ?_; (with_reducible refine (find_Fewest.calls (wrap64 (1 + (wrap64 (Int.tmod a0 5)))) (wrap64 ((Int.tmod (wrap64 (a1)) (wrap64 ((wrap64 (1 + (wrap64 (Int.tmod a0 5)))) + 1))) - 1)) t214 t215 _ (HTab.out.below (by repeat (first | (with_reducible first | exact HB.out | apply below_alloc | apply pw_below_drewN | apply below_drew1) | exact HB.out))) A17.out).mono ?_); rintro e w21 ⟨rfl, hb⟩; refine ⟨_, rfl, ?_⟩; have n0_ := Aside0.mk (below_step (by repeat (first | (with_reducible first | exact HB.out | apply below_alloc | apply pw_below_drewN | apply below_drew1) | exact HB.out)) hb); clear HB; have HB := n0_; clear n0_; (try clear hb); (try clear hb2); (try clear hk); (try clear hi)))
                  go_meet
                  case rel => exact ⟨_, H', ⟨by have := HJ5.out; first | omega | exact Nat.le_refl _⟩, ⟨by repeat (first | (with_reducible first | exact HB.out | apply below_alloc | apply pw_below_drewN | apply below_drew1) | exact HB.out)⟩⟩
              · rw [if_neg c18] at H
                have c18b0 : (t215 == 0) = false := beq_eq_false_iff_ne.mpr c18
                have c18b1 : (t215 != 0) = true := bne_iff_ne.mpr c18
                obtain rfl := Option.some.inj H
                go_wp2_with (first | ((with_reducible refine gate_callee (f := 22) rfl ?_); refine goesL_ (some 55) rfl rfl Tryd.func22 (by kernel_rfl) rfl #[.int .i64 (wrap64 (1 + (wrap64 (Int.tmod a0 5)))), .int .i64 (wrap64 ((Int.tmod (wrap64 (a1)) (wrap64 ((wrap64 (1 + (wrap64 (Int.tmod a0 5)))) + 1))) - 1))] rfl (by (try simp only [List.map_toArray, List.map_cons, List.map_nil]); first | done | rfl | (simp only [List.length_drop, List.length_take]; rfl)) ?_; (with_reducible refine (find_Fewest.calls (wrap64 (1 + (wrap64 (Int.tmod a0 5)))) (wrap64 ((Int.tmod (wrap64 (a1)) (wrap64 ((wrap64 (1 + (wrap64 (Int.tmod a0 5)))) + 1))) - 1)) t214 t215 _ (HTab.out.below (by repeat (first | (with_reducible first | exact HB.out | apply below_alloc | apply pw_below_drewN | apply below_drew1) | exact HB.out))) A17.out).mono ?_); rintro e w22 ⟨rfl, hb⟩; refine ⟨_, rfl, ?_⟩; have n0_ := Aside0.mk (below_step (by repeat (first | (with_reducible first | exact HB.out | apply below_alloc | apply pw_below_drewN | apply below_drew1) | exact HB.out)) hb); clear HB; have HB := n0_; clear n0_; (try clear hb); (try clear hb2); (try clear hk); (try clear hi)))
                go_ret
                exact ⟨by first | rfl | (simp [errW_none, errW_some] <;> rfl) | (simp [*, errW_none, errW_some] <;> rfl), by repeat (first | (with_reducible first | exact HB.out | apply below_alloc | apply pw_below_drewN | apply below_drew1) | exact HB.out)⟩
            · rw [if_neg c16] at H
              have c16b0 : decide (0 < (Int.tmod (wrap64 (a1)) (wrap64 ((wrap64 (1 + (wrap64 (Int.tmod a0 5)))) + 1)))) = false := decide_eq_false c16
              clear c16
              (first | rw [c16b0] | (simp only [i64_w, i32_w]; rw [c16b0]) | skip)
              have H' := Aside0.mk H
              clear H
              go_wp2
              go_meet
              case rel => exact ⟨_, H', ⟨by have := HJ5.out; first | omega | exact Nat.le_refl _⟩, ⟨by repeat (first | (with_reducible first | exact HB.out | apply below_alloc | apply pw_below_drewN | apply below_drew1) | exact HB.out)⟩⟩
          case rest =>
            clear HC15
            try clear c1
            try clear c2
            try clear p2
            try clear c3
            try clear c3b0
            try clear c3b1
            try clear c5
            try clear p6
            try clear c9
            try clear c9b0
            try clear c9b1
            try clear c10
            try clear c11
            try clear c11b0
            try clear c11b1
            try clear c14
            try clear c16
            try clear c16b0
            try clear c18
            try clear c18b0
            try clear c18b1
            try clear c19
            try clear c19b0
            try clear c22
            try clear p2
            try clear p6
            obtain ⟨kq, HA, HJ14, HB⟩ := hcut
            cases kq with
            | zero => exact absurd HA.out (by simp [neonwrightlaw05_FindInformation.j1])
            | succ kj14 =>
              have H := HA.out
              clear HA
              simp only [neonwrightlaw05_FindInformation.j1] at H
              have HC23 := Aside0.mk H
              clear H
              go_upto_region 11 with (fail)
              go_cut [71] (fun v71 wc => ∃ (kq : Nat) (x71_22 : Bool), v71 = .bool x71_22 ∧ Aside0 (neonwrightlaw05_FindInformation.j2 kq (wrap64 (1 + (wrap64 (Int.tmod a0 5)))) (Int.tmod (wrap64 (a1)) (wrap64 ((wrap64 (1 + (wrap64 (Int.tmod a0 5)))) + 1))) t208 x71_22 = some r) ∧ Aside0 (kq ≤ kj14) ∧ Aside0 (Below w.heap.size w wc))
              case first =>
                have H := HC23.out
                clear HC23
                by_cases c24 : (wrap64 (1 + (wrap64 (Int.tmod a0 5)))) > (Int.tmod (wrap64 (a1)) (wrap64 ((wrap64 (1 + (wrap64 (Int.tmod a0 5)))) + 1)))
                · rw [if_pos c24] at H
                  have c24b0 : decide ((Int.tmod (wrap64 (a1)) (wrap64 ((wrap64 (1 + (wrap64 (Int.tmod a0 5)))) + 1))) < (wrap64 (1 + (wrap64 (Int.tmod a0 5))))) = true := decide_eq_true c24
                  clear c24
                  (first | rw [c24b0] | (simp only [i64_w, i32_w]; rw [c24b0]) | skip)
                  have H' := Aside0.mk H
                  clear H
                  go_wp2
                  go_meet
                  case rel => exact ⟨_, (decide ((wrap64 (1 + (wrap64 (Int.tmod a0 5)))) > 1)), (by first | rfl | (simp; done) | (simp [*]; done)), H', ⟨by have := HJ5.out; have := HJ14.out; first | omega | exact Nat.le_refl _⟩, ⟨by repeat (first | (with_reducible first | exact HB.out | apply below_alloc | apply pw_below_drewN | apply below_drew1) | exact HB.out)⟩⟩
                · rw [if_neg c24] at H
                  have c24b0 : decide ((Int.tmod (wrap64 (a1)) (wrap64 ((wrap64 (1 + (wrap64 (Int.tmod a0 5)))) + 1))) < (wrap64 (1 + (wrap64 (Int.tmod a0 5))))) = false := decide_eq_false c24
                  clear c24
                  (first | rw [c24b0] | (simp only [i64_w, i32_w]; rw [c24b0]) | skip)
                  have H' := Aside0.mk H
                  clear H
                  go_wp2
                  go_meet
                  case rel => exact ⟨_, (false), (by first | rfl | (simp; done) | (simp [*]; done)), H', ⟨by have := HJ5.out; have := HJ14.out; first | omega | exact Nat.le_refl _⟩, ⟨by repeat (first | (with_reducible first | exact HB.out | apply below_alloc | apply pw_below_drewN | apply below_drew1) | exact HB.out)⟩⟩
              case rest =>
                clear HC23
                try clear c1
                try clear c2
                try clear p2
                try clear c3
                try clear c3b0
                try clear c3b1
                try clear c5
                try clear p6
                try clear c9
                try clear c9b0
                try clear c9b1
                try clear c10
                try clear c11
                try clear c11b0
                try clear c11b1
                try clear c14
                try clear c16
                try clear c16b0
                try clear c18
                try clear c18b0
                try clear c18b1
                try clear c19
                try clear c19b0
                try clear c22
                try clear c23
                try clear c24
                try clear c24b0
                try clear p2
                try clear p6
                obtain ⟨kq, x71_22, rfl, HA, HJ22, HB⟩ := hcut
                cases kq with
                | zero => exact absurd HA.out (by simp [neonwrightlaw05_FindInformation.j2])
                | succ kj22 =>
                  have H := HA.out
                  clear HA
                  simp only [neonwrightlaw05_FindInformation.j2] at H
                  by_cases c25 : x71_22 = true
                  · subst c25
                    have H1 : ((find_Fewest.f (wrap64 ((wrap64 (1 + (wrap64 (Int.tmod a0 5)))) - 1)) (Int.tmod (wrap64 (a1)) (wrap64 ((wrap64 (1 + (wrap64 (Int.tmod a0 5)))) + 1)))).bind fun bt216 => (if bt216.2 = 0 then (neonwrightlaw05_FindInformation.j3 kj22 (wrap64 (1 + (wrap64 (Int.tmod a0 5)))) (Int.tmod (wrap64 (a1)) (wrap64 ((wrap64 (1 + (wrap64 (Int.tmod a0 5)))) + 1))) t208 (decide (bt216.1 > t208))) else (neonwrightlaw05_FindInformation.j3 kj22 (wrap64 (1 + (wrap64 (Int.tmod a0 5)))) (Int.tmod (wrap64 (a1)) (wrap64 ((wrap64 (1 + (wrap64 (Int.tmod a0 5)))) + 1))) t208 true))) = some r := by rw [if_pos rfl] at H; exact H
                    clear H
                    have H := H1
                    clear H1
                    replace H := Option.bind_eq_some_iff.mp H
                    obtain ⟨⟨t216, t217⟩, A260, H⟩ := H
                    replace H : (if t217 = 0 then (neonwrightlaw05_FindInformation.j3 kj22 (wrap64 (1 + (wrap64 (Int.tmod a0 5)))) (Int.tmod (wrap64 (a1)) (wrap64 ((wrap64 (1 + (wrap64 (Int.tmod a0 5)))) + 1))) t208 (decide (t216 > t208))) else (neonwrightlaw05_FindInformation.j3 kj22 (wrap64 (1 + (wrap64 (Int.tmod a0 5)))) (Int.tmod (wrap64 (a1)) (wrap64 ((wrap64 (1 + (wrap64 (Int.tmod a0 5)))) + 1))) t208 true)) = some r := H
                    have A26 := Aside0.mk A260
                    clear A260
                    have HC27 := Aside0.mk H
                    clear H
                    go_upto_region 13 with (first | ((with_reducible refine gate_callee (f := 22) rfl ?_); refine goesL_ (some 76) rfl rfl Tryd.func22 (by kernel_rfl) rfl #[.int .i64 (wrap64 ((wrap64 (1 + (wrap64 (Int.tmod a0 5)))) - 1)), .int .i64 (Int.tmod (wrap64 (a1)) (wrap64 ((wrap64 (1 + (wrap64 (Int.tmod a0 5)))) + 1)))] rfl (by (try simp only [List.map_toArray, List.map_cons, List.map_nil]); first | done | rfl | (simp only [List.length_drop, List.length_take]; rfl)) ?_; (with_reducible refine (find_Fewest.calls (wrap64 ((wrap64 (1 + (wrap64 (Int.tmod a0 5)))) - 1)) (Int.tmod (wrap64 (a1)) (wrap64 ((wrap64 (1 + (wrap64 (Int.tmod a0 5)))) + 1))) t216 t217 _ (HTab.out.below (by repeat (first | (with_reducible first | exact HB.out | apply below_alloc | apply pw_below_drewN | apply below_drew1) | exact HB.out))) A26.out).mono ?_); rintro e w28 ⟨rfl, hb⟩; refine ⟨_, rfl, ?_⟩; have n0_ := Aside0.mk (below_step (by repeat (first | (with_reducible first | exact HB.out | apply below_alloc | apply pw_below_drewN | apply below_drew1) | exact HB.out)) hb); clear HB; have HB := n0_; clear n0_; (try clear hb); (try clear hb2); (try clear hk); (try clear hi)))
                    (try simp only [Act.put, List.setIfInBounds_toArray, List.set_cons_zero, List.set_cons_succ])
                    go_cut [85] (fun v85 wc => ∃ (kq : Nat) (x85_26 : Bool), v85 = .bool x85_26 ∧ Aside0 (neonwrightlaw05_FindInformation.j3 kq (wrap64 (1 + (wrap64 (Int.tmod a0 5)))) (Int.tmod (wrap64 (a1)) (wrap64 ((wrap64 (1 + (wrap64 (Int.tmod a0 5)))) + 1))) t208 x85_26 = some r) ∧ Aside0 (kq ≤ kj22) ∧ Aside0 (Below w.heap.size w wc))
                    case first =>
                      have H := HC27.out
                      clear HC27
                      by_cases c29 : t217 = 0
                      · rw [if_pos c29] at H
                        have c29b0 : (t217 == 0) = true := beq_iff_eq.mpr c29
                        have c29b1 : (t217 != 0) = false := bne_eq_false_iff_eq.mpr c29
                        clear c29
                        (first | rw [c29b0] | (simp only [i64_w, i32_w]; rw [c29b0]) | skip)
                        have H' := Aside0.mk H
                        clear H
                        go_wp2
                        go_meet
                        case rel => exact ⟨_, (decide (t216 > t208)), (by first | rfl | (simp; done) | (simp [*]; done)), H', ⟨by have := HJ5.out; have := HJ14.out; have := HJ22.out; first | omega | exact Nat.le_refl _⟩, ⟨by repeat (first | (with_reducible first | exact HB.out | apply below_alloc | apply pw_below_drewN | apply below_drew1) | exact HB.out)⟩⟩
                      · rw [if_neg c29] at H
                        have c29b0 : (t217 == 0) = false := beq_eq_false_iff_ne.mpr c29
                        have c29b1 : (t217 != 0) = true := bne_iff_ne.mpr c29
                        (first | rw [c29b0] | (simp only [i64_w, i32_w]; rw [c29b0]) | skip)
                        have H' := Aside0.mk H
                        clear H
                        go_wp2
                        go_meet
                        case rel => exact ⟨_, (true), (by first | rfl | (simp; done) | (simp [*]; done)), H', ⟨by have := HJ5.out; have := HJ14.out; have := HJ22.out; first | omega | exact Nat.le_refl _⟩, ⟨by repeat (first | (with_reducible first | exact HB.out | apply below_alloc | apply pw_below_drewN | apply below_drew1) | exact HB.out)⟩⟩
                    case rest =>
                      clear HC27
                      try clear c1
                      try clear c2
                      try clear p2
                      try clear c3
                      try clear c3b0
                      try clear c3b1
                      try clear c5
                      try clear p6
                      try clear c9
                      try clear c9b0
                      try clear c9b1
                      try clear c10
                      try clear c11
                      try clear c11b0
                      try clear c11b1
                      try clear c14
                      try clear c16
                      try clear c16b0
                      try clear c18
                      try clear c18b0
                      try clear c18b1
                      try clear c19
                      try clear c19b0
                      try clear c22
                      try clear c23
                      try clear c24
                      try clear c24b0
                      try clear c25
                      try clear c29
                      try clear c29b0
                      try clear c29b1
                      try clear p2
                      try clear p6
                      obtain ⟨kq, x85_26, rfl, HA, HJ26, HB⟩ := hcut
                      cases kq with
                      | zero => exact absurd HA.out (by simp [neonwrightlaw05_FindInformation.j3])
                      | succ kj26 =>
                        have H := HA.out
                        clear HA
                        simp only [neonwrightlaw05_FindInformation.j3] at H
                        by_cases c30 : x85_26 = true
                        · subst c30
                          have H1 : (some false) = some r := by rw [if_pos rfl] at H; exact H
                          clear H
                          have H := H1
                          clear H1
                          obtain rfl := Option.some.inj H
                          go_wp2
                          go_ret
                          exact ⟨by first | rfl | (simp [errW_none, errW_some] <;> rfl) | (simp [*, errW_none, errW_some] <;> rfl), by repeat (first | (with_reducible first | exact HB.out | apply below_alloc | apply pw_below_drewN | apply below_drew1) | exact HB.out)⟩
                        · replace c30 := Bool.eq_false_iff.mpr c30
                          subst c30
                          have H1 : (if (Int.tmod (wrap64 (a1)) (wrap64 ((wrap64 (1 + (wrap64 (Int.tmod a0 5)))) + 1))) = 1 then (if 0 ≤ t208 then (if (shl .i64 1 t208) < (wrap64 ((wrap64 (1 + (wrap64 (Int.tmod a0 5)))) + 1)) then (some false) else (if 0 ≤ (wrap64 (t208 - 1)) then (if (shl .i64 1 (wrap64 (t208 - 1))) ≥ (wrap64 ((wrap64 (1 + (wrap64 (Int.tmod a0 5)))) + 1)) then (some false) else (if (Int.tmod (wrap64 (a1)) (wrap64 ((wrap64 (1 + (wrap64 (Int.tmod a0 5)))) + 1))) < (wrap64 (1 + (wrap64 (Int.tmod a0 5)))) then (if (Int.tmod (wrap64 (a1)) (wrap64 ((wrap64 (1 + (wrap64 (Int.tmod a0 5)))) + 1))) > 0 then ((neonwrightlaw05_alive.f kj26).bind fun t218 => (some t218)) else (if t208 = 0 then ((neonwrightlaw05_alive.f kj26).bind fun t219 => (some t219)) else (some false))) else (if t208 = (wrap64 (1 + (wrap64 (Int.tmod a0 5)))) then (if (Int.tmod (wrap64 (a1)) (wrap64 ((wrap64 (1 + (wrap64 (Int.tmod a0 5)))) + 1))) > 0 then ((neonwrightlaw05_alive.f kj26).bind fun t220 => (some t220)) else (if t208 = 0 then ((neonwrightlaw05_alive.f kj26).bind fun t221 => (some t221)) else (some false))) else (some false)))) else (none))) else (none)) else (if (Int.tmod (wrap64 (a1)) (wrap64 ((wrap64 (1 + (wrap64 (Int.tmod a0 5)))) + 1))) < (wrap64 (1 + (wrap64 (Int.tmod a0 5)))) then (if (Int.tmod (wrap64 (a1)) (wrap64 ((wrap64 (1 + (wrap64 (Int.tmod a0 5)))) + 1))) > 0 then ((neonwrightlaw05_alive.f kj26).bind fun t222 => (some t222)) else (if t208 = 0 then ((neonwrightlaw05_alive.f kj26).bind fun t223 => (some t223)) else (some false))) else (if t208 = (wrap64 (1 + (wrap64 (Int.tmod a0 5)))) then (if (Int.tmod (wrap64 (a1)) (wrap64 ((wrap64 (1 + (wrap64 (Int.tmod a0 5)))) + 1))) > 0 then ((neonwrightlaw05_alive.f kj26).bind fun t224 => (some t224)) else (if t208 = 0 then ((neonwrightlaw05_alive.f kj26).bind fun t225 => (some t225)) else (some false))) else (some false)))) = some r := by rw [if_neg (show ¬ (false = true) by decide)] at H; exact H
                          clear H
                          have H := H1
                          clear H1
                          by_cases c31 : (Int.tmod (wrap64 (a1)) (wrap64 ((wrap64 (1 + (wrap64 (Int.tmod a0 5)))) + 1))) = 1
                          · rw [if_pos c31] at H
                            have c31b0 : ((Int.tmod (wrap64 (a1)) (wrap64 ((wrap64 (1 + (wrap64 (Int.tmod a0 5)))) + 1))) == 1) = true := beq_iff_eq.mpr c31
                            have c31b1 : ((Int.tmod (wrap64 (a1)) (wrap64 ((wrap64 (1 + (wrap64 (Int.tmod a0 5)))) + 1))) != 1) = false := bne_eq_false_iff_eq.mpr c31
                            clear c31
                            by_cases c32 : 0 ≤ t208
                            · rw [if_pos c32] at H
                              have c32b0 := eq_true c32
                              have c32b1 : decide (0 ≤ t208) = true := decide_eq_true c32
                              clear c32
                              obtain ⟨ji33, hji33⟩ : ∃ j_ : Int, (shl .i64 1 t208) = j_ := ⟨_, rfl⟩
                              replace H : (if (ji33) < (wrap64 ((wrap64 (1 + (wrap64 (Int.tmod a0 5)))) + 1)) then (some false) else (if 0 ≤ (wrap64 (t208 - 1)) then (if (shl .i64 1 (wrap64 (t208 - 1))) ≥ (wrap64 ((wrap64 (1 + (wrap64 (Int.tmod a0 5)))) + 1)) then (some false) else (if (Int.tmod (wrap64 (a1)) (wrap64 ((wrap64 (1 + (wrap64 (Int.tmod a0 5)))) + 1))) < (wrap64 (1 + (wrap64 (Int.tmod a0 5)))) then (if (Int.tmod (wrap64 (a1)) (wrap64 ((wrap64 (1 + (wrap64 (Int.tmod a0 5)))) + 1))) > 0 then ((neonwrightlaw05_alive.f kj26).bind fun t218 => (some t218)) else (if t208 = 0 then ((neonwrightlaw05_alive.f kj26).bind fun t219 => (some t219)) else (some false))) else (if t208 = (wrap64 (1 + (wrap64 (Int.tmod a0 5)))) then (if (Int.tmod (wrap64 (a1)) (wrap64 ((wrap64 (1 + (wrap64 (Int.tmod a0 5)))) + 1))) > 0 then ((neonwrightlaw05_alive.f kj26).bind fun t220 => (some t220)) else (if t208 = 0 then ((neonwrightlaw05_alive.f kj26).bind fun t221 => (some t221)) else (some false))) else (some false)))) else (none))) = some r := by first | (rw [hji33] at H; exact H) | (simp only [hji33] at H ⊢; exact H)
                              have hji33_ : (IntKind.i64.wrap (1 * 2 ^ min t208.toNat 64)) = ji33 := hji33
                              have hji33z : t208 ≤ 64 → (IntKind.i64.wrap (1 * 2 ^ t208.toNat)) = ji33 := shl_small hji33
                              have hji33u : (IntKind.i64.wrap (2 ^ min t208.toNat 64)) = ji33 := by have h_ := hji33_; rw [Int.one_mul] at h_; exact h_
                              have hji33v : t208 ≤ 64 → (IntKind.i64.wrap (2 ^ t208.toNat)) = ji33 := fun hle_ => by have h_ := hji33z hle_; rw [Int.one_mul] at h_; exact h_
                              have hji33y : (wrap64 (1 * 2 ^ min t208.toNat 64)) = ji33 := (i64_w _).symm.trans hji33_
                              have hji33x : t208 ≤ 64 → (wrap64 (1 * 2 ^ t208.toNat)) = ji33 := fun h_ => (i64_w _).symm.trans (hji33z h_)
                              by_cases c34 : (ji33) < (wrap64 ((wrap64 (1 + (wrap64 (Int.tmod a0 5)))) + 1))
                              · rw [if_pos c34] at H
                                have c34b0 : decide ((ji33) < (wrap64 ((wrap64 (1 + (wrap64 (Int.tmod a0 5)))) + 1))) = true := decide_eq_true c34
                                (try (have c34b0n : ¬ (ji12 = 0) := fun h_ => c34 (by rw [← hji12.symm.trans hji33]; exact h_)))
                                (try (have c34b0j : decide ((ji12) < (wrap64 ((wrap64 (1 + (wrap64 (Int.tmod a0 5)))) + 1))) = true := by rw [hji12.symm.trans hji33]; exact c34b0))
                                clear c34
                                obtain rfl := Option.some.inj H
                                go_wp2
                                go_ret
                                exact ⟨by first | rfl | (simp [errW_none, errW_some] <;> rfl) | (simp only [← hji33]; first | rfl | (simp [errW_none, errW_some] <;> rfl)) | (simp [*, errW_none, errW_some] <;> rfl), by repeat (first | (with_reducible first | exact HB.out | apply below_alloc | apply pw_below_drewN | apply below_drew1) | exact HB.out)⟩
                              · rw [if_neg c34] at H
                                have c34b0 : decide ((ji33) < (wrap64 ((wrap64 (1 + (wrap64 (Int.tmod a0 5)))) + 1))) = false := decide_eq_false c34
                                (try (have c34b0n : ¬ (ji12 = 0) := fun h_ => c34 (by rw [← hji12.symm.trans hji33]; exact h_)))
                                (try (have c34b0j : decide ((ji12) < (wrap64 ((wrap64 (1 + (wrap64 (Int.tmod a0 5)))) + 1))) = false := by rw [hji12.symm.trans hji33]; exact c34b0))
                                clear c34
                                obtain ⟨ji35, hji35⟩ : ∃ j_ : Int, (wrap64 (t208 - 1)) = j_ := ⟨_, rfl⟩
                                replace H : (if 0 ≤ (ji35) then (if (shl .i64 1 (ji35)) ≥ (wrap64 ((wrap64 (1 + (wrap64 (Int.tmod a0 5)))) + 1)) then (some false) else (if (Int.tmod (wrap64 (a1)) (wrap64 ((wrap64 (1 + (wrap64 (Int.tmod a0 5)))) + 1))) < (wrap64 (1 + (wrap64 (Int.tmod a0 5)))) then (if (Int.tmod (wrap64 (a1)) (wrap64 ((wrap64 (1 + (wrap64 (Int.tmod a0 5)))) + 1))) > 0 then ((neonwrightlaw05_alive.f kj26).bind fun t218 => (some t218)) else (if t208 = 0 then ((neonwrightlaw05_alive.f kj26).bind fun t219 => (some t219)) else (some false))) else (if t208 = (wrap64 (1 + (wrap64 (Int.tmod a0 5)))) then (if (Int.tmod (wrap64 (a1)) (wrap64 ((wrap64 (1 + (wrap64 (Int.tmod a0 5)))) + 1))) > 0 then ((neonwrightlaw05_alive.f kj26).bind fun t220 => (some t220)) else (if t208 = 0 then ((neonwrightlaw05_alive.f kj26).bind fun t221 => (some t221)) else (some false))) else (some false)))) else (none)) = some r := by first | (rw [hji35] at H; exact H) | (simp only [hji35] at H ⊢; exact H)
                                have hji35w : (IntKind.i64.wrap (t208 - 1)) = ji35 := (i64_w _).trans hji35
                                by_cases c36 : 0 ≤ (ji35)
                                · rw [if_pos c36] at H
                                  have c36b0 := eq_true c36
                                  have c36b1 : decide (0 ≤ (ji35)) = true := decide_eq_true c36
                                  clear c36
                                  obtain ⟨ji37, hji37⟩ : ∃ j_ : Int, (shl .i64 1 (ji35)) = j_ := ⟨_, rfl⟩
                                  replace H : (if (ji37) ≥ (wrap64 ((wrap64 (1 + (wrap64 (Int.tmod a0 5)))) + 1)) then (some false) else (if (Int.tmod (wrap64 (a1)) (wrap64 ((wrap64 (1 + (wrap64 (Int.tmod a0 5)))) + 1))) < (wrap64 (1 + (wrap64 (Int.tmod a0 5)))) then (if (Int.tmod (wrap64 (a1)) (wrap64 ((wrap64 (1 + (wrap64 (Int.tmod a0 5)))) + 1))) > 0 then ((neonwrightlaw05_alive.f kj26).bind fun t218 => (some t218)) else (if t208 = 0 then ((neonwrightlaw05_alive.f kj26).bind fun t219 => (some t219)) else (some false))) else (if t208 = (wrap64 (1 + (wrap64 (Int.tmod a0 5)))) then (if (Int.tmod (wrap64 (a1)) (wrap64 ((wrap64 (1 + (wrap64 (Int.tmod a0 5)))) + 1))) > 0 then ((neonwrightlaw05_alive.f kj26).bind fun t220 => (some t220)) else (if t208 = 0 then ((neonwrightlaw05_alive.f kj26).bind fun t221 => (some t221)) else (some false))) else (some false)))) = some r := by first | (rw [hji37] at H; exact H) | (simp only [hji37] at H ⊢; exact H)
                                  have hji37_ : (IntKind.i64.wrap (1 * 2 ^ min (ji35).toNat 64)) = ji37 := hji37
                                  have hji37z : (ji35) ≤ 64 → (IntKind.i64.wrap (1 * 2 ^ (ji35).toNat)) = ji37 := shl_small hji37
                                  have hji37u : (IntKind.i64.wrap (2 ^ min (ji35).toNat 64)) = ji37 := by have h_ := hji37_; rw [Int.one_mul] at h_; exact h_
                                  have hji37v : (ji35) ≤ 64 → (IntKind.i64.wrap (2 ^ (ji35).toNat)) = ji37 := fun hle_ => by have h_ := hji37z hle_; rw [Int.one_mul] at h_; exact h_
                                  have hji37y : (wrap64 (1 * 2 ^ min (ji35).toNat 64)) = ji37 := (i64_w _).symm.trans hji37_
                                  have hji37x : (ji35) ≤ 64 → (wrap64 (1 * 2 ^ (ji35).toNat)) = ji37 := fun h_ => (i64_w _).symm.trans (hji37z h_)
                                  by_cases c38 : (ji37) ≥ (wrap64 ((wrap64 (1 + (wrap64 (Int.tmod a0 5)))) + 1))
                                  · rw [if_pos c38] at H
                                    have c38b0 : decide ((wrap64 ((wrap64 (1 + (wrap64 (Int.tmod a0 5)))) + 1)) ≤ (ji37)) = true := decide_eq_true c38
                                    clear c38
                                    obtain rfl := Option.some.inj H
                                    go_wp2
                                    go_ret
                                    exact ⟨by first | rfl | (simp [errW_none, errW_some] <;> rfl) | (simp only [← hji33, ← hji35, ← hji37]; first | rfl | (simp [errW_none, errW_some] <;> rfl)) | (simp [*, errW_none, errW_some] <;> rfl), by repeat (first | (with_reducible first | exact HB.out | apply below_alloc | apply pw_below_drewN | apply below_drew1) | exact HB.out)⟩
                                  · rw [if_neg c38] at H
                                    have c38b0 : decide ((wrap64 ((wrap64 (1 + (wrap64 (Int.tmod a0 5)))) + 1)) ≤ (ji37)) = false := decide_eq_false c38
                                    clear c38
                                    by_cases c39 : (Int.tmod (wrap64 (a1)) (wrap64 ((wrap64 (1 + (wrap64 (Int.tmod a0 5)))) + 1))) < (wrap64 (1 + (wrap64 (Int.tmod a0 5))))
                                    · rw [if_pos c39] at H
                                      have c39b0 : decide ((Int.tmod (wrap64 (a1)) (wrap64 ((wrap64 (1 + (wrap64 (Int.tmod a0 5)))) + 1))) < (wrap64 (1 + (wrap64 (Int.tmod a0 5))))) = true := decide_eq_true c39
                                      clear c39
                                      by_cases c40 : (Int.tmod (wrap64 (a1)) (wrap64 ((wrap64 (1 + (wrap64 (Int.tmod a0 5)))) + 1))) > 0
                                      · rw [if_pos c40] at H
                                        have c40b0 : decide (0 < (Int.tmod (wrap64 (a1)) (wrap64 ((wrap64 (1 + (wrap64 (Int.tmod a0 5)))) + 1)))) = true := decide_eq_true c40
                                        clear c40
                                        replace H := Option.bind_eq_some_iff.mp H
                                        obtain ⟨t218, A410, H⟩ := H
                                        replace H : (some t218) = some r := H
                                        have A41 := Aside0.mk A410
                                        clear A410
                                        obtain rfl := Option.some.inj H
                                        go_wp2_with (first | (go_at_call 17; (with_reducible refine (neonwrightlaw05_alive.calls kj26  t218 _ (HTab.out.below (by repeat (first | (with_reducible first | exact HB.out | apply below_alloc | apply pw_below_drewN | apply below_drew1) | exact HB.out))) A41.out).mono ?_); rintro e w42 ⟨rfl, hb⟩; have n0_ := Aside0.mk (below_step (by repeat (first | (with_reducible first | exact HB.out | apply below_alloc | apply pw_below_drewN | apply below_drew1) | exact HB.out)) hb); clear HB; have HB := n0_; clear n0_; (try clear hb); (try clear hb2); (try clear hk); (try clear hi)))
                                        go_ret
                                        exact ⟨by first | rfl | (simp [errW_none, errW_some] <;> rfl) | (simp only [← hji33, ← hji35, ← hji37]; first | rfl | (simp [errW_none, errW_some] <;> rfl)) | (simp [*, errW_none, errW_some] <;> rfl), by repeat (first | (with_reducible first | exact HB.out | apply below_alloc | apply pw_below_drewN | apply below_drew1) | exact HB.out)⟩
                                      · rw [if_neg c40] at H
                                        have c40b0 : decide (0 < (Int.tmod (wrap64 (a1)) (wrap64 ((wrap64 (1 + (wrap64 (Int.tmod a0 5)))) + 1)))) = false := decide_eq_false c40
                                        exact absurd (beq_iff_eq.1 c31b0) (fun e => by rw [e] at c40b0; exact absurd c40b0 (by decide))
                                    · rw [if_neg c39] at H
                                      have c39b0 : decide ((Int.tmod (wrap64 (a1)) (wrap64 ((wrap64 (1 + (wrap64 (Int.tmod a0 5)))) + 1))) < (wrap64 (1 + (wrap64 (Int.tmod a0 5))))) = false := decide_eq_false c39
                                      clear c39
                                      by_cases c46 : t208 = (wrap64 (1 + (wrap64 (Int.tmod a0 5))))
                                      · rw [if_pos c46] at H
                                        have c46b0 : (t208 == (wrap64 (1 + (wrap64 (Int.tmod a0 5))))) = true := beq_iff_eq.mpr c46
                                        have c46b1 : (t208 != (wrap64 (1 + (wrap64 (Int.tmod a0 5))))) = false := bne_eq_false_iff_eq.mpr c46
                                        clear c46
                                        by_cases c47 : (Int.tmod (wrap64 (a1)) (wrap64 ((wrap64 (1 + (wrap64 (Int.tmod a0 5)))) + 1))) > 0
                                        · rw [if_pos c47] at H
                                          have c47b0 : decide (0 < (Int.tmod (wrap64 (a1)) (wrap64 ((wrap64 (1 + (wrap64 (Int.tmod a0 5)))) + 1)))) = true := decide_eq_true c47
                                          clear c47
                                          replace H := Option.bind_eq_some_iff.mp H
                                          obtain ⟨t220, A480, H⟩ := H
                                          replace H : (some t220) = some r := H
                                          have A48 := Aside0.mk A480
                                          clear A480
                                          obtain rfl := Option.some.inj H
                                          go_wp2_with (first | (go_at_call 17; (with_reducible refine (neonwrightlaw05_alive.calls kj26  t220 _ (HTab.out.below (by repeat (first | (with_reducible first | exact HB.out | apply below_alloc | apply pw_below_drewN | apply below_drew1) | exact HB.out))) A48.out).mono ?_); rintro e w49 ⟨rfl, hb⟩; have n0_ := Aside0.mk (below_step (by repeat (first | (with_reducible first | exact HB.out | apply below_alloc | apply pw_below_drewN | apply below_drew1) | exact HB.out)) hb); clear HB; have HB := n0_; clear n0_; (try clear hb); (try clear hb2); (try clear hk); (try clear hi)))
                                          go_ret
                                          exact ⟨by first | rfl | (simp [errW_none, errW_some] <;> rfl) | (simp only [← hji33, ← hji35, ← hji37]; first | rfl | (simp [errW_none, errW_some] <;> rfl)) | (simp [*, errW_none, errW_some] <;> rfl), by repeat (first | (with_reducible first | exact HB.out | apply below_alloc | apply pw_below_drewN | apply below_drew1) | exact HB.out)⟩
                                        · rw [if_neg c47] at H
                                          have c47b0 : decide (0 < (Int.tmod (wrap64 (a1)) (wrap64 ((wrap64 (1 + (wrap64 (Int.tmod a0 5)))) + 1)))) = false := decide_eq_false c47
                                          exact absurd (beq_iff_eq.1 c31b0) (fun e => by rw [e] at c47b0; exact absurd c47b0 (by decide))
                                      · rw [if_neg c46] at H
                                        have c46b0 : (t208 == (wrap64 (1 + (wrap64 (Int.tmod a0 5))))) = false := beq_eq_false_iff_ne.mpr c46
                                        have c46b1 : (t208 != (wrap64 (1 + (wrap64 (Int.tmod a0 5))))) = true := bne_iff_ne.mpr c46
                                        obtain rfl := Option.some.inj H
                                        go_wp2
                                        go_ret
                                        exact ⟨by first | rfl | (simp [errW_none, errW_some] <;> rfl) | (simp only [← hji33, ← hji35, ← hji37]; first | rfl | (simp [errW_none, errW_some] <;> rfl)) | (simp [*, errW_none, errW_some] <;> rfl), by repeat (first | (with_reducible first | exact HB.out | apply below_alloc | apply pw_below_drewN | apply below_drew1) | exact HB.out)⟩
                                · rw [if_neg c36] at H
                                  exact absurd H (by simp)
                            · rw [if_neg c32] at H
                              exact absurd H (by simp)
                          · rw [if_neg c31] at H
                            have c31b0 : ((Int.tmod (wrap64 (a1)) (wrap64 ((wrap64 (1 + (wrap64 (Int.tmod a0 5)))) + 1))) == 1) = false := beq_eq_false_iff_ne.mpr c31
                            have c31b1 : ((Int.tmod (wrap64 (a1)) (wrap64 ((wrap64 (1 + (wrap64 (Int.tmod a0 5)))) + 1))) != 1) = true := bne_iff_ne.mpr c31
                            by_cases c53 : (Int.tmod (wrap64 (a1)) (wrap64 ((wrap64 (1 + (wrap64 (Int.tmod a0 5)))) + 1))) < (wrap64 (1 + (wrap64 (Int.tmod a0 5))))
                            · rw [if_pos c53] at H
                              have c53b0 : decide ((Int.tmod (wrap64 (a1)) (wrap64 ((wrap64 (1 + (wrap64 (Int.tmod a0 5)))) + 1))) < (wrap64 (1 + (wrap64 (Int.tmod a0 5))))) = true := decide_eq_true c53
                              clear c53
                              by_cases c54 : (Int.tmod (wrap64 (a1)) (wrap64 ((wrap64 (1 + (wrap64 (Int.tmod a0 5)))) + 1))) > 0
                              · rw [if_pos c54] at H
                                have c54b0 : decide (0 < (Int.tmod (wrap64 (a1)) (wrap64 ((wrap64 (1 + (wrap64 (Int.tmod a0 5)))) + 1)))) = true := decide_eq_true c54
                                clear c54
                                replace H := Option.bind_eq_some_iff.mp H
                                obtain ⟨t222, A550, H⟩ := H
                                replace H : (some t222) = some r := H
                                have A55 := Aside0.mk A550
                                clear A550
                                obtain rfl := Option.some.inj H
                                go_wp2_with (first | (go_at_call 17; (with_reducible refine (neonwrightlaw05_alive.calls kj26  t222 _ (HTab.out.below (by repeat (first | (with_reducible first | exact HB.out | apply below_alloc | apply pw_below_drewN | apply below_drew1) | exact HB.out))) A55.out).mono ?_); rintro e w56 ⟨rfl, hb⟩; have n0_ := Aside0.mk (below_step (by repeat (first | (with_reducible first | exact HB.out | apply below_alloc | apply pw_below_drewN | apply below_drew1) | exact HB.out)) hb); clear HB; have HB := n0_; clear n0_; (try clear hb); (try clear hb2); (try clear hk); (try clear hi)))
                                go_ret
                                exact ⟨by first | rfl | (simp [errW_none, errW_some] <;> rfl) | (simp [*, errW_none, errW_some] <;> rfl), by repeat (first | (with_reducible first | exact HB.out | apply below_alloc | apply pw_below_drewN | apply below_drew1) | exact HB.out)⟩
                              · rw [if_neg c54] at H
                                have c54b0 : decide (0 < (Int.tmod (wrap64 (a1)) (wrap64 ((wrap64 (1 + (wrap64 (Int.tmod a0 5)))) + 1)))) = false := decide_eq_false c54
                                clear c54
                                by_cases c57 : t208 = 0
                                · rw [if_pos c57] at H
                                  have c57b0 : (t208 == 0) = true := beq_iff_eq.mpr c57
                                  have c57b1 : (t208 != 0) = false := bne_eq_false_iff_eq.mpr c57
                                  clear c57
                                  replace H := Option.bind_eq_some_iff.mp H
                                  obtain ⟨t223, A580, H⟩ := H
                                  replace H : (some t223) = some r := H
                                  have A58 := Aside0.mk A580
                                  clear A580
                                  obtain rfl := Option.some.inj H
                                  go_wp2_with (first | (go_at_call 17; (with_reducible refine (neonwrightlaw05_alive.calls kj26  t223 _ (HTab.out.below (by repeat (first | (with_reducible first | exact HB.out | apply below_alloc | apply pw_below_drewN | apply below_drew1) | exact HB.out))) A58.out).mono ?_); rintro e w59 ⟨rfl, hb⟩; have n0_ := Aside0.mk (below_step (by repeat (first | (with_reducible first | exact HB.out | apply below_alloc | apply pw_below_drewN | apply below_drew1) | exact HB.out)) hb); clear HB; have HB := n0_; clear n0_; (try clear hb); (try clear hb2); (try clear hk); (try clear hi)))
                                  go_ret
                                  exact ⟨by first | rfl | (simp [errW_none, errW_some] <;> rfl) | (simp [*, errW_none, errW_some] <;> rfl), by repeat (first | (with_reducible first | exact HB.out | apply below_alloc | apply pw_below_drewN | apply below_drew1) | exact HB.out)⟩
                                · rw [if_neg c57] at H
                                  have c57b0 : (t208 == 0) = false := beq_eq_false_iff_ne.mpr c57
                                  have c57b1 : (t208 != 0) = true := bne_iff_ne.mpr c57
                                  obtain rfl := Option.some.inj H
                                  go_wp2
                                  go_ret
                                  exact ⟨by first | rfl | (simp [errW_none, errW_some] <;> rfl) | (simp [*, errW_none, errW_some] <;> rfl), by repeat (first | (with_reducible first | exact HB.out | apply below_alloc | apply pw_below_drewN | apply below_drew1) | exact HB.out)⟩
                            · rw [if_neg c53] at H
                              have c53b0 : decide ((Int.tmod (wrap64 (a1)) (wrap64 ((wrap64 (1 + (wrap64 (Int.tmod a0 5)))) + 1))) < (wrap64 (1 + (wrap64 (Int.tmod a0 5))))) = false := decide_eq_false c53
                              clear c53
                              by_cases c60 : t208 = (wrap64 (1 + (wrap64 (Int.tmod a0 5))))
                              · rw [if_pos c60] at H
                                have c60b0 : (t208 == (wrap64 (1 + (wrap64 (Int.tmod a0 5))))) = true := beq_iff_eq.mpr c60
                                have c60b1 : (t208 != (wrap64 (1 + (wrap64 (Int.tmod a0 5))))) = false := bne_eq_false_iff_eq.mpr c60
                                clear c60
                                by_cases c61 : (Int.tmod (wrap64 (a1)) (wrap64 ((wrap64 (1 + (wrap64 (Int.tmod a0 5)))) + 1))) > 0
                                · rw [if_pos c61] at H
                                  have c61b0 : decide (0 < (Int.tmod (wrap64 (a1)) (wrap64 ((wrap64 (1 + (wrap64 (Int.tmod a0 5)))) + 1)))) = true := decide_eq_true c61
                                  clear c61
                                  replace H := Option.bind_eq_some_iff.mp H
                                  obtain ⟨t224, A620, H⟩ := H
                                  replace H : (some t224) = some r := H
                                  have A62 := Aside0.mk A620
                                  clear A620
                                  obtain rfl := Option.some.inj H
                                  go_wp2_with (first | (go_at_call 17; (with_reducible refine (neonwrightlaw05_alive.calls kj26  t224 _ (HTab.out.below (by repeat (first | (with_reducible first | exact HB.out | apply below_alloc | apply pw_below_drewN | apply below_drew1) | exact HB.out))) A62.out).mono ?_); rintro e w63 ⟨rfl, hb⟩; have n0_ := Aside0.mk (below_step (by repeat (first | (with_reducible first | exact HB.out | apply below_alloc | apply pw_below_drewN | apply below_drew1) | exact HB.out)) hb); clear HB; have HB := n0_; clear n0_; (try clear hb); (try clear hb2); (try clear hk); (try clear hi)))
                                  go_ret
                                  exact ⟨by first | rfl | (simp [errW_none, errW_some] <;> rfl) | (simp [*, errW_none, errW_some] <;> rfl), by repeat (first | (with_reducible first | exact HB.out | apply below_alloc | apply pw_below_drewN | apply below_drew1) | exact HB.out)⟩
                                · rw [if_neg c61] at H
                                  have c61b0 : decide (0 < (Int.tmod (wrap64 (a1)) (wrap64 ((wrap64 (1 + (wrap64 (Int.tmod a0 5)))) + 1)))) = false := decide_eq_false c61
                                  clear c61
                                  by_cases c64 : t208 = 0
                                  · rw [if_pos c64] at H
                                    have c64b0 : (t208 == 0) = true := beq_iff_eq.mpr c64
                                    have c64b1 : (t208 != 0) = false := bne_eq_false_iff_eq.mpr c64
                                    clear c64
                                    replace H := Option.bind_eq_some_iff.mp H
                                    obtain ⟨t225, A650, H⟩ := H
                                    replace H : (some t225) = some r := H
                                    have A65 := Aside0.mk A650
                                    clear A650
                                    obtain rfl := Option.some.inj H
                                    go_wp2_with (first | (go_at_call 17; (with_reducible refine (neonwrightlaw05_alive.calls kj26  t225 _ (HTab.out.below (by repeat (first | (with_reducible first | exact HB.out | apply below_alloc | apply pw_below_drewN | apply below_drew1) | exact HB.out))) A65.out).mono ?_); rintro e w66 ⟨rfl, hb⟩; have n0_ := Aside0.mk (below_step (by repeat (first | (with_reducible first | exact HB.out | apply below_alloc | apply pw_below_drewN | apply below_drew1) | exact HB.out)) hb); clear HB; have HB := n0_; clear n0_; (try clear hb); (try clear hb2); (try clear hk); (try clear hi)))
                                    go_ret
                                    exact ⟨by first | rfl | (simp [errW_none, errW_some] <;> rfl) | (simp [*, errW_none, errW_some] <;> rfl), by repeat (first | (with_reducible first | exact HB.out | apply below_alloc | apply pw_below_drewN | apply below_drew1) | exact HB.out)⟩
                                  · rw [if_neg c64] at H
                                    have c64b0 : (t208 == 0) = false := beq_eq_false_iff_ne.mpr c64
                                    have c64b1 : (t208 != 0) = true := bne_iff_ne.mpr c64
                                    obtain rfl := Option.some.inj H
                                    go_wp2
                                    go_ret
                                    exact ⟨by first | rfl | (simp [errW_none, errW_some] <;> rfl) | (simp [*, errW_none, errW_some] <;> rfl), by repeat (first | (with_reducible first | exact HB.out | apply below_alloc | apply pw_below_drewN | apply below_drew1) | exact HB.out)⟩
                              · rw [if_neg c60] at H
                                have c60b0 : (t208 == (wrap64 (1 + (wrap64 (Int.tmod a0 5))))) = false := beq_eq_false_iff_ne.mpr c60
                                have c60b1 : (t208 != (wrap64 (1 + (wrap64 (Int.tmod a0 5))))) = true := bne_iff_ne.mpr c60
                                obtain rfl := Option.some.inj H
                                go_wp2
                                go_ret
                                exact ⟨by first | rfl | (simp [errW_none, errW_some] <;> rfl) | (simp [*, errW_none, errW_some] <;> rfl), by repeat (first | (with_reducible first | exact HB.out | apply below_alloc | apply pw_below_drewN | apply below_drew1) | exact HB.out)⟩
                  · replace c25 := Bool.eq_false_iff.mpr c25
                    subst c25
                    have H1 : (if (Int.tmod (wrap64 (a1)) (wrap64 ((wrap64 (1 + (wrap64 (Int.tmod a0 5)))) + 1))) = 1 then (if 0 ≤ t208 then (if (shl .i64 1 t208) < (wrap64 ((wrap64 (1 + (wrap64 (Int.tmod a0 5)))) + 1)) then (some false) else (if 0 ≤ (wrap64 (t208 - 1)) then (if (shl .i64 1 (wrap64 (t208 - 1))) ≥ (wrap64 ((wrap64 (1 + (wrap64 (Int.tmod a0 5)))) + 1)) then (some false) else (if (Int.tmod (wrap64 (a1)) (wrap64 ((wrap64 (1 + (wrap64 (Int.tmod a0 5)))) + 1))) < (wrap64 (1 + (wrap64 (Int.tmod a0 5)))) then (if (Int.tmod (wrap64 (a1)) (wrap64 ((wrap64 (1 + (wrap64 (Int.tmod a0 5)))) + 1))) > 0 then ((neonwrightlaw05_alive.f kj22).bind fun t226 => (some t226)) else (if t208 = 0 then ((neonwrightlaw05_alive.f kj22).bind fun t227 => (some t227)) else (some false))) else (if t208 = (wrap64 (1 + (wrap64 (Int.tmod a0 5)))) then (if (Int.tmod (wrap64 (a1)) (wrap64 ((wrap64 (1 + (wrap64 (Int.tmod a0 5)))) + 1))) > 0 then ((neonwrightlaw05_alive.f kj22).bind fun t228 => (some t228)) else (if t208 = 0 then ((neonwrightlaw05_alive.f kj22).bind fun t229 => (some t229)) else (some false))) else (some false)))) else (none))) else (none)) else (if (Int.tmod (wrap64 (a1)) (wrap64 ((wrap64 (1 + (wrap64 (Int.tmod a0 5)))) + 1))) < (wrap64 (1 + (wrap64 (Int.tmod a0 5)))) then (if (Int.tmod (wrap64 (a1)) (wrap64 ((wrap64 (1 + (wrap64 (Int.tmod a0 5)))) + 1))) > 0 then ((neonwrightlaw05_alive.f kj22).bind fun t230 => (some t230)) else (if t208 = 0 then ((neonwrightlaw05_alive.f kj22).bind fun t231 => (some t231)) else (some false))) else (if t208 = (wrap64 (1 + (wrap64 (Int.tmod a0 5)))) then (if (Int.tmod (wrap64 (a1)) (wrap64 ((wrap64 (1 + (wrap64 (Int.tmod a0 5)))) + 1))) > 0 then ((neonwrightlaw05_alive.f kj22).bind fun t232 => (some t232)) else (if t208 = 0 then ((neonwrightlaw05_alive.f kj22).bind fun t233 => (some t233)) else (some false))) else (some false)))) = some r := by rw [if_neg (show ¬ (false = true) by decide)] at H; exact H
                    clear H
                    have H := H1
                    clear H1
                    by_cases c67 : (Int.tmod (wrap64 (a1)) (wrap64 ((wrap64 (1 + (wrap64 (Int.tmod a0 5)))) + 1))) = 1
                    · rw [if_pos c67] at H
                      have c67b0 : ((Int.tmod (wrap64 (a1)) (wrap64 ((wrap64 (1 + (wrap64 (Int.tmod a0 5)))) + 1))) == 1) = true := beq_iff_eq.mpr c67
                      have c67b1 : ((Int.tmod (wrap64 (a1)) (wrap64 ((wrap64 (1 + (wrap64 (Int.tmod a0 5)))) + 1))) != 1) = false := bne_eq_false_iff_eq.mpr c67
                      clear c67
                      by_cases c68 : 0 ≤ t208
                      · rw [if_pos c68] at H
                        have c68b0 := eq_true c68
                        have c68b1 : decide (0 ≤ t208) = true := decide_eq_true c68
                        clear c68
                        obtain ⟨ji69, hji69⟩ : ∃ j_ : Int, (shl .i64 1 t208) = j_ := ⟨_, rfl⟩
                        replace H : (if (ji69) < (wrap64 ((wrap64 (1 + (wrap64 (Int.tmod a0 5)))) + 1)) then (some false) else (if 0 ≤ (wrap64 (t208 - 1)) then (if (shl .i64 1 (wrap64 (t208 - 1))) ≥ (wrap64 ((wrap64 (1 + (wrap64 (Int.tmod a0 5)))) + 1)) then (some false) else (if (Int.tmod (wrap64 (a1)) (wrap64 ((wrap64 (1 + (wrap64 (Int.tmod a0 5)))) + 1))) < (wrap64 (1 + (wrap64 (Int.tmod a0 5)))) then (if (Int.tmod (wrap64 (a1)) (wrap64 ((wrap64 (1 + (wrap64 (Int.tmod a0 5)))) + 1))) > 0 then ((neonwrightlaw05_alive.f kj22).bind fun t226 => (some t226)) else (if t208 = 0 then ((neonwrightlaw05_alive.f kj22).bind fun t227 => (some t227)) else (some false))) else (if t208 = (wrap64 (1 + (wrap64 (Int.tmod a0 5)))) then (if (Int.tmod (wrap64 (a1)) (wrap64 ((wrap64 (1 + (wrap64 (Int.tmod a0 5)))) + 1))) > 0 then ((neonwrightlaw05_alive.f kj22).bind fun t228 => (some t228)) else (if t208 = 0 then ((neonwrightlaw05_alive.f kj22).bind fun t229 => (some t229)) else (some false))) else (some false)))) else (none))) = some r := by first | (rw [hji69] at H; exact H) | (simp only [hji69] at H ⊢; exact H)
                        have hji69_ : (IntKind.i64.wrap (1 * 2 ^ min t208.toNat 64)) = ji69 := hji69
                        have hji69z : t208 ≤ 64 → (IntKind.i64.wrap (1 * 2 ^ t208.toNat)) = ji69 := shl_small hji69
                        have hji69u : (IntKind.i64.wrap (2 ^ min t208.toNat 64)) = ji69 := by have h_ := hji69_; rw [Int.one_mul] at h_; exact h_
                        have hji69v : t208 ≤ 64 → (IntKind.i64.wrap (2 ^ t208.toNat)) = ji69 := fun hle_ => by have h_ := hji69z hle_; rw [Int.one_mul] at h_; exact h_
                        have hji69y : (wrap64 (1 * 2 ^ min t208.toNat 64)) = ji69 := (i64_w _).symm.trans hji69_
                        have hji69x : t208 ≤ 64 → (wrap64 (1 * 2 ^ t208.toNat)) = ji69 := fun h_ => (i64_w _).symm.trans (hji69z h_)
                        by_cases c70 : (ji69) < (wrap64 ((wrap64 (1 + (wrap64 (Int.tmod a0 5)))) + 1))
                        · rw [if_pos c70] at H
                          have c70b0 : decide ((ji69) < (wrap64 ((wrap64 (1 + (wrap64 (Int.tmod a0 5)))) + 1))) = true := decide_eq_true c70
                          (try (have c70b0n : ¬ (ji12 = 0) := fun h_ => c70 (by rw [← hji12.symm.trans hji69]; exact h_)))
                          (try (have c70b0j : decide ((ji12) < (wrap64 ((wrap64 (1 + (wrap64 (Int.tmod a0 5)))) + 1))) = true := by rw [hji12.symm.trans hji69]; exact c70b0))
                          clear c70
                          obtain rfl := Option.some.inj H
                          go_wp2
                          go_ret
                          exact ⟨by first | rfl | (simp [errW_none, errW_some] <;> rfl) | (simp only [← hji69]; first | rfl | (simp [errW_none, errW_some] <;> rfl)) | (simp [*, errW_none, errW_some] <;> rfl), by repeat (first | (with_reducible first | exact HB.out | apply below_alloc | apply pw_below_drewN | apply below_drew1) | exact HB.out)⟩
                        · rw [if_neg c70] at H
                          have c70b0 : decide ((ji69) < (wrap64 ((wrap64 (1 + (wrap64 (Int.tmod a0 5)))) + 1))) = false := decide_eq_false c70
                          (try (have c70b0n : ¬ (ji12 = 0) := fun h_ => c70 (by rw [← hji12.symm.trans hji69]; exact h_)))
                          (try (have c70b0j : decide ((ji12) < (wrap64 ((wrap64 (1 + (wrap64 (Int.tmod a0 5)))) + 1))) = false := by rw [hji12.symm.trans hji69]; exact c70b0))
                          clear c70
                          obtain ⟨ji71, hji71⟩ : ∃ j_ : Int, (wrap64 (t208 - 1)) = j_ := ⟨_, rfl⟩
                          replace H : (if 0 ≤ (ji71) then (if (shl .i64 1 (ji71)) ≥ (wrap64 ((wrap64 (1 + (wrap64 (Int.tmod a0 5)))) + 1)) then (some false) else (if (Int.tmod (wrap64 (a1)) (wrap64 ((wrap64 (1 + (wrap64 (Int.tmod a0 5)))) + 1))) < (wrap64 (1 + (wrap64 (Int.tmod a0 5)))) then (if (Int.tmod (wrap64 (a1)) (wrap64 ((wrap64 (1 + (wrap64 (Int.tmod a0 5)))) + 1))) > 0 then ((neonwrightlaw05_alive.f kj22).bind fun t226 => (some t226)) else (if t208 = 0 then ((neonwrightlaw05_alive.f kj22).bind fun t227 => (some t227)) else (some false))) else (if t208 = (wrap64 (1 + (wrap64 (Int.tmod a0 5)))) then (if (Int.tmod (wrap64 (a1)) (wrap64 ((wrap64 (1 + (wrap64 (Int.tmod a0 5)))) + 1))) > 0 then ((neonwrightlaw05_alive.f kj22).bind fun t228 => (some t228)) else (if t208 = 0 then ((neonwrightlaw05_alive.f kj22).bind fun t229 => (some t229)) else (some false))) else (some false)))) else (none)) = some r := by first | (rw [hji71] at H; exact H) | (simp only [hji71] at H ⊢; exact H)
                          have hji71w : (IntKind.i64.wrap (t208 - 1)) = ji71 := (i64_w _).trans hji71
                          by_cases c72 : 0 ≤ (ji71)
                          · rw [if_pos c72] at H
                            have c72b0 := eq_true c72
                            have c72b1 : decide (0 ≤ (ji71)) = true := decide_eq_true c72
                            (try (have c72b1j : decide (0 ≤ (ji35)) = true := by rw [hji35.symm.trans hji71]; exact c72b1))
                            clear c72
                            obtain ⟨ji73, hji73⟩ : ∃ j_ : Int, (shl .i64 1 (ji71)) = j_ := ⟨_, rfl⟩
                            replace H : (if (ji73) ≥ (wrap64 ((wrap64 (1 + (wrap64 (Int.tmod a0 5)))) + 1)) then (some false) else (if (Int.tmod (wrap64 (a1)) (wrap64 ((wrap64 (1 + (wrap64 (Int.tmod a0 5)))) + 1))) < (wrap64 (1 + (wrap64 (Int.tmod a0 5)))) then (if (Int.tmod (wrap64 (a1)) (wrap64 ((wrap64 (1 + (wrap64 (Int.tmod a0 5)))) + 1))) > 0 then ((neonwrightlaw05_alive.f kj22).bind fun t226 => (some t226)) else (if t208 = 0 then ((neonwrightlaw05_alive.f kj22).bind fun t227 => (some t227)) else (some false))) else (if t208 = (wrap64 (1 + (wrap64 (Int.tmod a0 5)))) then (if (Int.tmod (wrap64 (a1)) (wrap64 ((wrap64 (1 + (wrap64 (Int.tmod a0 5)))) + 1))) > 0 then ((neonwrightlaw05_alive.f kj22).bind fun t228 => (some t228)) else (if t208 = 0 then ((neonwrightlaw05_alive.f kj22).bind fun t229 => (some t229)) else (some false))) else (some false)))) = some r := by first | (rw [hji73] at H; exact H) | (simp only [hji73] at H ⊢; exact H)
                            have hji73_ : (IntKind.i64.wrap (1 * 2 ^ min (ji71).toNat 64)) = ji73 := hji73
                            have hji73z : (ji71) ≤ 64 → (IntKind.i64.wrap (1 * 2 ^ (ji71).toNat)) = ji73 := shl_small hji73
                            have hji73u : (IntKind.i64.wrap (2 ^ min (ji71).toNat 64)) = ji73 := by have h_ := hji73_; rw [Int.one_mul] at h_; exact h_
                            have hji73v : (ji71) ≤ 64 → (IntKind.i64.wrap (2 ^ (ji71).toNat)) = ji73 := fun hle_ => by have h_ := hji73z hle_; rw [Int.one_mul] at h_; exact h_
                            have hji73y : (wrap64 (1 * 2 ^ min (ji71).toNat 64)) = ji73 := (i64_w _).symm.trans hji73_
                            have hji73x : (ji71) ≤ 64 → (wrap64 (1 * 2 ^ (ji71).toNat)) = ji73 := fun h_ => (i64_w _).symm.trans (hji73z h_)
                            by_cases c74 : (ji73) ≥ (wrap64 ((wrap64 (1 + (wrap64 (Int.tmod a0 5)))) + 1))
                            · rw [if_pos c74] at H
                              have c74b0 : decide ((wrap64 ((wrap64 (1 + (wrap64 (Int.tmod a0 5)))) + 1)) ≤ (ji73)) = true := decide_eq_true c74
                              clear c74
                              obtain rfl := Option.some.inj H
                              go_wp2
                              go_ret
                              exact ⟨by first | rfl | (simp [errW_none, errW_some] <;> rfl) | (simp only [← hji69, ← hji71, ← hji73]; first | rfl | (simp [errW_none, errW_some] <;> rfl)) | (simp [*, errW_none, errW_some] <;> rfl), by repeat (first | (with_reducible first | exact HB.out | apply below_alloc | apply pw_below_drewN | apply below_drew1) | exact HB.out)⟩
                            · rw [if_neg c74] at H
                              have c74b0 : decide ((wrap64 ((wrap64 (1 + (wrap64 (Int.tmod a0 5)))) + 1)) ≤ (ji73)) = false := decide_eq_false c74
                              clear c74
                              by_cases c75 : (Int.tmod (wrap64 (a1)) (wrap64 ((wrap64 (1 + (wrap64 (Int.tmod a0 5)))) + 1))) < (wrap64 (1 + (wrap64 (Int.tmod a0 5))))
                              · rw [if_pos c75] at H
                                have c75b0 : decide ((Int.tmod (wrap64 (a1)) (wrap64 ((wrap64 (1 + (wrap64 (Int.tmod a0 5)))) + 1))) < (wrap64 (1 + (wrap64 (Int.tmod a0 5))))) = true := decide_eq_true c75
                                clear c75
                                by_cases c76 : (Int.tmod (wrap64 (a1)) (wrap64 ((wrap64 (1 + (wrap64 (Int.tmod a0 5)))) + 1))) > 0
                                · rw [if_pos c76] at H
                                  have c76b0 : decide (0 < (Int.tmod (wrap64 (a1)) (wrap64 ((wrap64 (1 + (wrap64 (Int.tmod a0 5)))) + 1)))) = true := decide_eq_true c76
                                  clear c76
                                  replace H := Option.bind_eq_some_iff.mp H
                                  obtain ⟨t226, A770, H⟩ := H
                                  replace H : (some t226) = some r := H
                                  have A77 := Aside0.mk A770
                                  clear A770
                                  obtain rfl := Option.some.inj H
                                  go_wp2_with (first | (go_at_call 17; (with_reducible refine (neonwrightlaw05_alive.calls kj22  t226 _ (HTab.out.below (by repeat (first | (with_reducible first | exact HB.out | apply below_alloc | apply pw_below_drewN | apply below_drew1) | exact HB.out))) A77.out).mono ?_); rintro e w78 ⟨rfl, hb⟩; have n0_ := Aside0.mk (below_step (by repeat (first | (with_reducible first | exact HB.out | apply below_alloc | apply pw_below_drewN | apply below_drew1) | exact HB.out)) hb); clear HB; have HB := n0_; clear n0_; (try clear hb); (try clear hb2); (try clear hk); (try clear hi)))
                                  go_ret
                                  exact ⟨by first | rfl | (simp [errW_none, errW_some] <;> rfl) | (simp only [← hji69, ← hji71, ← hji73]; first | rfl | (simp [errW_none, errW_some] <;> rfl)) | (simp [*, errW_none, errW_some] <;> rfl), by repeat (first | (with_reducible first | exact HB.out | apply below_alloc | apply pw_below_drewN | apply below_drew1) | exact HB.out)⟩
                                · rw [if_neg c76] at H
                                  have c76b0 : decide (0 < (Int.tmod (wrap64 (a1)) (wrap64 ((wrap64 (1 + (wrap64 (Int.tmod a0 5)))) + 1)))) = false := decide_eq_false c76
                                  exact absurd (beq_iff_eq.1 c67b0) (fun e => by rw [e] at c76b0; exact absurd c76b0 (by decide))
                              · rw [if_neg c75] at H
                                have c75b0 : decide ((Int.tmod (wrap64 (a1)) (wrap64 ((wrap64 (1 + (wrap64 (Int.tmod a0 5)))) + 1))) < (wrap64 (1 + (wrap64 (Int.tmod a0 5))))) = false := decide_eq_false c75
                                clear c75
                                by_cases c82 : t208 = (wrap64 (1 + (wrap64 (Int.tmod a0 5))))
                                · rw [if_pos c82] at H
                                  have c82b0 : (t208 == (wrap64 (1 + (wrap64 (Int.tmod a0 5))))) = true := beq_iff_eq.mpr c82
                                  have c82b1 : (t208 != (wrap64 (1 + (wrap64 (Int.tmod a0 5))))) = false := bne_eq_false_iff_eq.mpr c82
                                  clear c82
                                  by_cases c83 : (Int.tmod (wrap64 (a1)) (wrap64 ((wrap64 (1 + (wrap64 (Int.tmod a0 5)))) + 1))) > 0
                                  · rw [if_pos c83] at H
                                    have c83b0 : decide (0 < (Int.tmod (wrap64 (a1)) (wrap64 ((wrap64 (1 + (wrap64 (Int.tmod a0 5)))) + 1)))) = true := decide_eq_true c83
                                    clear c83
                                    replace H := Option.bind_eq_some_iff.mp H
                                    obtain ⟨t228, A840, H⟩ := H
                                    replace H : (some t228) = some r := H
                                    have A84 := Aside0.mk A840
                                    clear A840
                                    obtain rfl := Option.some.inj H
                                    go_wp2_with (first | (go_at_call 17; (with_reducible refine (neonwrightlaw05_alive.calls kj22  t228 _ (HTab.out.below (by repeat (first | (with_reducible first | exact HB.out | apply below_alloc | apply pw_below_drewN | apply below_drew1) | exact HB.out))) A84.out).mono ?_); rintro e w85 ⟨rfl, hb⟩; have n0_ := Aside0.mk (below_step (by repeat (first | (with_reducible first | exact HB.out | apply below_alloc | apply pw_below_drewN | apply below_drew1) | exact HB.out)) hb); clear HB; have HB := n0_; clear n0_; (try clear hb); (try clear hb2); (try clear hk); (try clear hi)))
                                    go_ret
                                    exact ⟨by first | rfl | (simp [errW_none, errW_some] <;> rfl) | (simp only [← hji69, ← hji71, ← hji73]; first | rfl | (simp [errW_none, errW_some] <;> rfl)) | (simp [*, errW_none, errW_some] <;> rfl), by repeat (first | (with_reducible first | exact HB.out | apply below_alloc | apply pw_below_drewN | apply below_drew1) | exact HB.out)⟩
                                  · rw [if_neg c83] at H
                                    have c83b0 : decide (0 < (Int.tmod (wrap64 (a1)) (wrap64 ((wrap64 (1 + (wrap64 (Int.tmod a0 5)))) + 1)))) = false := decide_eq_false c83
                                    exact absurd (beq_iff_eq.1 c67b0) (fun e => by rw [e] at c83b0; exact absurd c83b0 (by decide))
                                · rw [if_neg c82] at H
                                  have c82b0 : (t208 == (wrap64 (1 + (wrap64 (Int.tmod a0 5))))) = false := beq_eq_false_iff_ne.mpr c82
                                  have c82b1 : (t208 != (wrap64 (1 + (wrap64 (Int.tmod a0 5))))) = true := bne_iff_ne.mpr c82
                                  obtain rfl := Option.some.inj H
                                  go_wp2
                                  go_ret
                                  exact ⟨by first | rfl | (simp [errW_none, errW_some] <;> rfl) | (simp only [← hji69, ← hji71, ← hji73]; first | rfl | (simp [errW_none, errW_some] <;> rfl)) | (simp [*, errW_none, errW_some] <;> rfl), by repeat (first | (with_reducible first | exact HB.out | apply below_alloc | apply pw_below_drewN | apply below_drew1) | exact HB.out)⟩
                          · rw [if_neg c72] at H
                            exact absurd H (by simp)
                      · rw [if_neg c68] at H
                        exact absurd H (by simp)
                    · rw [if_neg c67] at H
                      have c67b0 : ((Int.tmod (wrap64 (a1)) (wrap64 ((wrap64 (1 + (wrap64 (Int.tmod a0 5)))) + 1))) == 1) = false := beq_eq_false_iff_ne.mpr c67
                      have c67b1 : ((Int.tmod (wrap64 (a1)) (wrap64 ((wrap64 (1 + (wrap64 (Int.tmod a0 5)))) + 1))) != 1) = true := bne_iff_ne.mpr c67
                      by_cases c89 : (Int.tmod (wrap64 (a1)) (wrap64 ((wrap64 (1 + (wrap64 (Int.tmod a0 5)))) + 1))) < (wrap64 (1 + (wrap64 (Int.tmod a0 5))))
                      · rw [if_pos c89] at H
                        have c89b0 : decide ((Int.tmod (wrap64 (a1)) (wrap64 ((wrap64 (1 + (wrap64 (Int.tmod a0 5)))) + 1))) < (wrap64 (1 + (wrap64 (Int.tmod a0 5))))) = true := decide_eq_true c89
                        clear c89
                        by_cases c90 : (Int.tmod (wrap64 (a1)) (wrap64 ((wrap64 (1 + (wrap64 (Int.tmod a0 5)))) + 1))) > 0
                        · rw [if_pos c90] at H
                          have c90b0 : decide (0 < (Int.tmod (wrap64 (a1)) (wrap64 ((wrap64 (1 + (wrap64 (Int.tmod a0 5)))) + 1)))) = true := decide_eq_true c90
                          clear c90
                          replace H := Option.bind_eq_some_iff.mp H
                          obtain ⟨t230, A910, H⟩ := H
                          replace H : (some t230) = some r := H
                          have A91 := Aside0.mk A910
                          clear A910
                          obtain rfl := Option.some.inj H
                          go_wp2_with (first | (go_at_call 17; (with_reducible refine (neonwrightlaw05_alive.calls kj22  t230 _ (HTab.out.below (by repeat (first | (with_reducible first | exact HB.out | apply below_alloc | apply pw_below_drewN | apply below_drew1) | exact HB.out))) A91.out).mono ?_); rintro e w92 ⟨rfl, hb⟩; have n0_ := Aside0.mk (below_step (by repeat (first | (with_reducible first | exact HB.out | apply below_alloc | apply pw_below_drewN | apply below_drew1) | exact HB.out)) hb); clear HB; have HB := n0_; clear n0_; (try clear hb); (try clear hb2); (try clear hk); (try clear hi)))
                          go_ret
                          exact ⟨by first | rfl | (simp [errW_none, errW_some] <;> rfl) | (simp [*, errW_none, errW_some] <;> rfl), by repeat (first | (with_reducible first | exact HB.out | apply below_alloc | apply pw_below_drewN | apply below_drew1) | exact HB.out)⟩
                        · rw [if_neg c90] at H
                          have c90b0 : decide (0 < (Int.tmod (wrap64 (a1)) (wrap64 ((wrap64 (1 + (wrap64 (Int.tmod a0 5)))) + 1)))) = false := decide_eq_false c90
                          clear c90
                          by_cases c93 : t208 = 0
                          · rw [if_pos c93] at H
                            have c93b0 : (t208 == 0) = true := beq_iff_eq.mpr c93
                            have c93b1 : (t208 != 0) = false := bne_eq_false_iff_eq.mpr c93
                            clear c93
                            replace H := Option.bind_eq_some_iff.mp H
                            obtain ⟨t231, A940, H⟩ := H
                            replace H : (some t231) = some r := H
                            have A94 := Aside0.mk A940
                            clear A940
                            obtain rfl := Option.some.inj H
                            go_wp2_with (first | (go_at_call 17; (with_reducible refine (neonwrightlaw05_alive.calls kj22  t231 _ (HTab.out.below (by repeat (first | (with_reducible first | exact HB.out | apply below_alloc | apply pw_below_drewN | apply below_drew1) | exact HB.out))) A94.out).mono ?_); rintro e w95 ⟨rfl, hb⟩; have n0_ := Aside0.mk (below_step (by repeat (first | (with_reducible first | exact HB.out | apply below_alloc | apply pw_below_drewN | apply below_drew1) | exact HB.out)) hb); clear HB; have HB := n0_; clear n0_; (try clear hb); (try clear hb2); (try clear hk); (try clear hi)))
                            go_ret
                            exact ⟨by first | rfl | (simp [errW_none, errW_some] <;> rfl) | (simp [*, errW_none, errW_some] <;> rfl), by repeat (first | (with_reducible first | exact HB.out | apply below_alloc | apply pw_below_drewN | apply below_drew1) | exact HB.out)⟩
                          · rw [if_neg c93] at H
                            have c93b0 : (t208 == 0) = false := beq_eq_false_iff_ne.mpr c93
                            have c93b1 : (t208 != 0) = true := bne_iff_ne.mpr c93
                            obtain rfl := Option.some.inj H
                            go_wp2
                            go_ret
                            exact ⟨by first | rfl | (simp [errW_none, errW_some] <;> rfl) | (simp [*, errW_none, errW_some] <;> rfl), by repeat (first | (with_reducible first | exact HB.out | apply below_alloc | apply pw_below_drewN | apply below_drew1) | exact HB.out)⟩
                      · rw [if_neg c89] at H
                        have c89b0 : decide ((Int.tmod (wrap64 (a1)) (wrap64 ((wrap64 (1 + (wrap64 (Int.tmod a0 5)))) + 1))) < (wrap64 (1 + (wrap64 (Int.tmod a0 5))))) = false := decide_eq_false c89
                        clear c89
                        by_cases c96 : t208 = (wrap64 (1 + (wrap64 (Int.tmod a0 5))))
                        · rw [if_pos c96] at H
                          have c96b0 : (t208 == (wrap64 (1 + (wrap64 (Int.tmod a0 5))))) = true := beq_iff_eq.mpr c96
                          have c96b1 : (t208 != (wrap64 (1 + (wrap64 (Int.tmod a0 5))))) = false := bne_eq_false_iff_eq.mpr c96
                          clear c96
                          by_cases c97 : (Int.tmod (wrap64 (a1)) (wrap64 ((wrap64 (1 + (wrap64 (Int.tmod a0 5)))) + 1))) > 0
                          · rw [if_pos c97] at H
                            have c97b0 : decide (0 < (Int.tmod (wrap64 (a1)) (wrap64 ((wrap64 (1 + (wrap64 (Int.tmod a0 5)))) + 1)))) = true := decide_eq_true c97
                            clear c97
                            replace H := Option.bind_eq_some_iff.mp H
                            obtain ⟨t232, A980, H⟩ := H
                            replace H : (some t232) = some r := H
                            have A98 := Aside0.mk A980
                            clear A980
                            obtain rfl := Option.some.inj H
                            go_wp2_with (first | (go_at_call 17; (with_reducible refine (neonwrightlaw05_alive.calls kj22  t232 _ (HTab.out.below (by repeat (first | (with_reducible first | exact HB.out | apply below_alloc | apply pw_below_drewN | apply below_drew1) | exact HB.out))) A98.out).mono ?_); rintro e w99 ⟨rfl, hb⟩; have n0_ := Aside0.mk (below_step (by repeat (first | (with_reducible first | exact HB.out | apply below_alloc | apply pw_below_drewN | apply below_drew1) | exact HB.out)) hb); clear HB; have HB := n0_; clear n0_; (try clear hb); (try clear hb2); (try clear hk); (try clear hi)))
                            go_ret
                            exact ⟨by first | rfl | (simp [errW_none, errW_some] <;> rfl) | (simp [*, errW_none, errW_some] <;> rfl), by repeat (first | (with_reducible first | exact HB.out | apply below_alloc | apply pw_below_drewN | apply below_drew1) | exact HB.out)⟩
                          · rw [if_neg c97] at H
                            have c97b0 : decide (0 < (Int.tmod (wrap64 (a1)) (wrap64 ((wrap64 (1 + (wrap64 (Int.tmod a0 5)))) + 1)))) = false := decide_eq_false c97
                            clear c97
                            by_cases c100 : t208 = 0
                            · rw [if_pos c100] at H
                              have c100b0 : (t208 == 0) = true := beq_iff_eq.mpr c100
                              have c100b1 : (t208 != 0) = false := bne_eq_false_iff_eq.mpr c100
                              clear c100
                              replace H := Option.bind_eq_some_iff.mp H
                              obtain ⟨t233, A1010, H⟩ := H
                              replace H : (some t233) = some r := H
                              have A101 := Aside0.mk A1010
                              clear A1010
                              obtain rfl := Option.some.inj H
                              go_wp2_with (first | (go_at_call 17; (with_reducible refine (neonwrightlaw05_alive.calls kj22  t233 _ (HTab.out.below (by repeat (first | (with_reducible first | exact HB.out | apply below_alloc | apply pw_below_drewN | apply below_drew1) | exact HB.out))) A101.out).mono ?_); rintro e w102 ⟨rfl, hb⟩; have n0_ := Aside0.mk (below_step (by repeat (first | (with_reducible first | exact HB.out | apply below_alloc | apply pw_below_drewN | apply below_drew1) | exact HB.out)) hb); clear HB; have HB := n0_; clear n0_; (try clear hb); (try clear hb2); (try clear hk); (try clear hi)))
                              go_ret
                              exact ⟨by first | rfl | (simp [errW_none, errW_some] <;> rfl) | (simp [*, errW_none, errW_some] <;> rfl), by repeat (first | (with_reducible first | exact HB.out | apply below_alloc | apply pw_below_drewN | apply below_drew1) | exact HB.out)⟩
                            · rw [if_neg c100] at H
                              have c100b0 : (t208 == 0) = false := beq_eq_false_iff_ne.mpr c100
                              have c100b1 : (t208 != 0) = true := bne_iff_ne.mpr c100
                              obtain rfl := Option.some.inj H
                              go_wp2
                              go_ret
                              exact ⟨by first | rfl | (simp [errW_none, errW_some] <;> rfl) | (simp [*, errW_none, errW_some] <;> rfl), by repeat (first | (with_reducible first | exact HB.out | apply below_alloc | apply pw_below_drewN | apply below_drew1) | exact HB.out)⟩
                        · rw [if_neg c96] at H
                          have c96b0 : (t208 == (wrap64 (1 + (wrap64 (Int.tmod a0 5))))) = false := beq_eq_false_iff_ne.mpr c96
                          have c96b1 : (t208 != (wrap64 (1 + (wrap64 (Int.tmod a0 5))))) = true := bne_iff_ne.mpr c96
                          obtain rfl := Option.some.inj H
                          go_wp2
                          go_ret
                          exact ⟨by first | rfl | (simp [errW_none, errW_some] <;> rfl) | (simp [*, errW_none, errW_some] <;> rfl), by repeat (first | (with_reducible first | exact HB.out | apply below_alloc | apply pw_below_drewN | apply below_drew1) | exact HB.out)⟩

/-- THE ONE PURE STATEMENT of neonwrightlaw05_FindInformation: yours. -/
def neonwrightlaw05_FindInformation.Pure : Prop := ∀ (a0 : Int) (a1 : Int), (Lit.int .u8 a0).wf = true → (Lit.int .u8 a1).wf = true → ∃ k, neonwrightlaw05_FindInformation.f k a0 a1 = some true

end Go.Proofs.YtglajokjiphafaaDoor.P

namespace Go.Proofs.YtglajokjiphafaaDoor.P
open Go.RowKit Go.Proofs.YtglajokjiphafaaDoorW.PrintWords Go.Proofs.YtglajokjiphafaaDoorW.PrintLast Go.Proofs.YtglajokjiphafaaDoorW.PrintMore
attribute [local go_sem] max2_int min2_int max_two min_two max_three min_three max_four min_four   -- for this text's walks alone
set_option linter.unusedVariables false
set_option linter.unusedSimpArgs false

/-! ### neonwrightref05_split: function 86 -/
def neonwrightref05_split.l0 : Nat → List Int → Int → List Int → List Int → Int → Option (List Int × List Int)
  | 0, _, _, _, _, _ => none
  | k + 1, x0, x1, x6, x7, x8 => if x8 < (x0.length : Int) then (if 0 ≤ x8 then (if (Go.bits .and .i64 (rd x0 x8) x1) = 0 then (if x7.length < 17592186044416 then (neonwrightref05_split.l0 k x0 x1 x6 (x7 ++ [rd x0 x8]) (wrap64 (x8 + 1))) else (none)) else (if x6.length < 17592186044416 then (neonwrightref05_split.l0 k x0 x1 (x6 ++ [rd x0 x8]) x7 (wrap64 (x8 + 1))) else (none))) else (none)) else (some (x6, x7))
def neonwrightref05_split.f (k : Nat) (l0 : List Int) (a1 : Int) : Option (List Int × List Int) := neonwrightref05_split.l0 k l0 a1 ([] : List Int) ([] : List Int) 0
theorem neonwrightref05_split.mono_l : ∀ k, (∀ y0 y1 y2 y3 y4, LeO (neonwrightref05_split.l0 k y0 y1 y2 y3 y4) (neonwrightref05_split.l0 (k + 1) y0 y1 y2 y3 y4))
  | 0 => fun _ _ _ _ _ r h => by simp [neonwrightref05_split.l0] at h
  | k + 1 => by
    have ih0 := neonwrightref05_split.mono_l k
    · intro y0 y1 y2 y3 y4
      unfold neonwrightref05_split.l0
      repeat' first
      | (with_reducible exact ih0 _ _ _ _ _)
      | (with_reducible exact LeO.refl _)
      | (with_reducible exact LeO.none _)
      | (with_reducible refine LeO.ite ?_ ?_)
      | (with_reducible refine LeO.bind ?_ (fun _ => ?_))
      | exact ih0 _ _ _ _ _
      | exact LeO.none _
      | refine LeO.ite ?_ ?_
      | refine LeO.bind ?_ (fun _ => ?_)
theorem neonwrightref05_split.mono : ∀ a0 a1 k, LeO (neonwrightref05_split.f k a0 a1) (neonwrightref05_split.f (k + 1) a0 a1) := by
  intro a0 a1 k
  have ih0 := neonwrightref05_split.mono_l k
  unfold neonwrightref05_split.f
  repeat' first
      | (with_reducible exact ih0 _ _ _ _ _)
      | (with_reducible exact LeO.refl _)
      | (with_reducible exact LeO.none _)
      | (with_reducible refine LeO.ite ?_ ?_)
      | (with_reducible refine LeO.bind ?_ (fun _ => ?_))
      | exact ih0 _ _ _ _ _
      | exact LeO.none _
      | refine LeO.ite ?_ ?_
      | refine LeO.bind ?_ (fun _ => ?_)
set_option maxHeartbeats 8000000 in
set_option maxRecDepth 100000 in
theorem neonwrightref05_split.calls (k : Nat) (A0 : Option Addr) (c0 : Nat) (l0 : List Int) (a1 : Int) (r1 : List Int) (r2 : List Int) (w : World) (hr0 : Kd.C (Kd.int .i64) w A0 l0.length l0) (hc0 : l0.length ≤ c0) (h : neonwrightref05_split.f k l0 a1 = some (r1, r2)) :
    Calls Tryd.prog 86 #[.slice A0 l0.length c0, .int .i64 a1] w fun e w' => ∃ v0_ v1_ : Value, e = .returned (.tuple #[v0_, v1_]) ∧ Kd.R (Kd.int .i64) 3 w' w.heap.size (fun k_ => some k_ ≠ (v1_ : Value).ownBlock) v0_ r1 ∧ Kd.R (Kd.int .i64) 3 w' w.heap.size (fun k_ => some k_ ≠ (v0_ : Value).ownBlock) v1_ r2 ∧ Below w.heap.size w w' := by
  have HR0 := Aside0.mk hr0
  have HC0 := Aside0.mk hc0
  clear hr0 hc0
  have HB := Aside0.mk (Below.refl w.heap.size w)
  have H : (neonwrightref05_split.l0 k l0 a1 ([] : List Int) ([] : List Int) 0) = some (r1, r2) := h
  clear h
  have H' := Aside0.mk H
  clear H
  go_enter Tryd.func86, Tryd.ntmps86
  go_wp2
  go_loopg [6, 7, 8] k (fun kq v6 v7 v8 w' => ∃ (x6_1 : List Int) (x7_1 : List Int) (x8_1 : Int), v8 = .int .i64 x8_1 ∧ Aside0 (neonwrightref05_split.l0 kq l0 a1 x6_1 x7_1 x8_1 = some (r1, r2)) ∧ Aside0 (kq ≤ k) ∧ Aside0 (Kd.R (Kd.int .i64) 3 w' w.heap.size (fun k_ => some k_ ≠ (v7 : Value).ownBlock) v6 x6_1) ∧ Aside0 (Kd.R (Kd.int .i64) 3 w' w.heap.size (fun k_ => some k_ ≠ (v6 : Value).ownBlock) v7 x7_1) ∧ Aside0 (Below w.heap.size w w'))
  case atStart => exact ⟨(([] : List Int)), (([] : List Int)), (0), (by first | rfl | (simp; done) | (simp [*]; done)), H', ⟨Nat.le_refl _⟩, ⟨by first | exact Kd.R_nil _ _ _ _ _ | exact Kd.N_nil _ _ _ _ _ | exact Kd.V_nil _ _ _ _ _ | exact Kd.Q_nil _ _ _ _ _ | exact Kd.S_nil _ _ _ _ _⟩, ⟨by first | exact Kd.R_nil _ _ _ _ _ | exact Kd.N_nil _ _ _ _ _ | exact Kd.V_nil _ _ _ _ _ | exact Kd.Q_nil _ _ _ _ _ | exact Kd.S_nil _ _ _ _ _⟩, ⟨by repeat (first | (with_reducible first | exact HB.out | apply below_alloc | apply pw_below_drewN | apply below_drew1) | exact HB.out)⟩⟩
  case round =>
    clear H'
    try clear p2
    obtain ⟨x6_1, x7_1, x8_1, rfl, HA, HK1, HO_6, HO_7, HB⟩ := hrel
    cases gk with
    | zero => exact absurd HA.out (by simp [neonwrightref05_split.l0])
    | succ k1 =>
      have H := HA.out
      clear HA
      simp only [neonwrightref05_split.l0] at H
      by_cases c3 : x8_1 < (l0.length : Int)
      · rw [if_pos c3] at H
        have c3b0 : decide (x8_1 < (l0.length : Int)) = true := decide_eq_true c3
        clear c3
        by_cases c4 : 0 ≤ x8_1
        · rw [if_pos c4] at H
          have c4b0 : decide (0 ≤ x8_1) = true := decide_eq_true c4
          clear c4
          by_cases c5 : (Go.bits .and .i64 (rd l0 x8_1) a1) = 0
          · rw [if_pos c5] at H
            have c5b0 : ((Go.bits .and .i64 (rd l0 x8_1) a1) == 0) = true := beq_iff_eq.mpr c5
            have c5b1 : ((Go.bits .and .i64 (rd l0 x8_1) a1) != 0) = false := bne_eq_false_iff_eq.mpr c5
            clear c5
            by_cases c6 : x7_1.length < 17592186044416
            · rw [if_pos c6] at H
              have LMc6 := Aside0.mk c6
              clear c6
              obtain ⟨y274, hy274⟩ : ∃ y_ : List Int, y_ = (x7_1 ++ [rd l0 x8_1]) := ⟨_, rfl⟩
              replace H : (neonwrightref05_split.l0 k1 l0 a1 x6_1 y274 (wrap64 (x8_1 + 1))) = some (r1, r2) := by first | (rw [hy274]; with_reducible exact H) | (have H2_ := (Option.bind_some _ _).symm.trans H; rw [hy274]; with_reducible exact H2_) | (have H2_ := (Option.bind_some _ _).symm.trans H; with_reducible exact H2_) | with_reducible exact H | (rw [hy274]; exact H) | exact H
              have Ny274 := Aside0.mk hy274
              clear hy274
              have H' := Aside0.mk H
              clear H
              have p272 : 0 ≤ (x8_1 : Int) := of_decide_eq_true (by first | (with_reducible assumption) | assumption)
              have q272 : x8_1 < (l0.length : Int) := of_decide_eq_true (by first | (with_reducible assumption) | assumption)
              obtain ⟨ad272, e272, hx272_0⟩ := Kd.at_int HR0.out x8_1 p272 q272
              cases e272
              replace hx272_0 := (HB.out.cell (World.block_lt_of_cell? w _ hx272_0)).trans hx272_0
              replace p272 := eq_true p272
              replace q272 := eq_true q272
              have p273 : 0 ≤ (x8_1 : Int) := of_decide_eq_true (by first | (with_reducible assumption) | assumption)
              have q273 : x8_1 < (l0.length : Int) := of_decide_eq_true (by first | (with_reducible assumption) | assumption)
              obtain ⟨ad273, e273, hx273_0⟩ := Kd.at_int HR0.out x8_1 p273 q273
              obtain rfl : ad272 = ad273 := (by injection e273)
              replace hx273_0 := (HB.out.cell (World.block_lt_of_cell? w _ hx273_0)).trans hx273_0
              replace p273 := eq_true p273
              replace q273 := eq_true q273
              go_wp2_with (first | ((with_reducible refine gate_builtin (b := .append) (xs := #[.tmp 29, .tmp 34]) rfl ?_); at_builtin; refine Kd.R_append (Kd.int .i64) (w0 := w) w.heap.size rfl (.tmp 29) (.tmp 34) 25 3 (.int .i64 0) 8 rfl Tryd.underlying25 info3 rfl (by decide) (by omega) u7 x7_1 (rd l0 x8_1) [.int .i64 (rd l0 x8_1)] (fun k_ => some k_ ≠ (u6 : Value).ownBlock) (fun _ => False) rfl rfl ?aP (fun _ hk => hk.elim) ?aF ?aO ?aB ?aS ?aL ?_; (case aP => exact rfl); (case aB => exact (by repeat (first | (with_reducible first | exact HB.out | apply below_alloc | apply pw_below_drewN | apply below_drew1) | exact HB.out))); (case aF => exact (fun k_ hk => Kd.fresh' (Kd.R_lt (by (with_reducible repeat (first | apply Kd.R_alloc | apply Kd.R_drewN | apply Kd.R_drew)); exact HO_6.out)) k_ hk)); (case aO => exact (by (with_reducible repeat (first | apply Kd.R_alloc | apply Kd.R_drewN | apply Kd.R_drew)); exact HO_7.out)); (case aS => exact (below_size (by repeat (first | (with_reducible first | exact HB.out | apply below_alloc | apply pw_below_drewN | apply below_drew1) | exact HB.out)))); (case aL => have := LMc6.out; omega); intro v275 w7 ho hb hg hat; rw [← Ny274.out] at ho; have n0_ := Aside0.mk (Kd.R_after (ok := (fun _ => True)) (by (with_reducible repeat (first | apply Kd.R_alloc | apply Kd.R_drewN | apply Kd.R_drew)); exact Kd.R_mono HO_6.out (fun _ hk => ⟨trivial, hk⟩)) hg hat); have n1_ := Aside0.mk (hb); have n2_ := Aside0.mk (ho); clear HO_6; clear HB; clear HO_7; have HO_6 := n0_; have HB := n1_; have HO276 := n2_; clear n0_ n1_ n2_; clear ho hb hg hat))
              go_roundg k1
              case measure => have := HK1.out; omega
              case rel => exact ⟨(x6_1), (y274), (wrap64 (x8_1 + 1)), (by first | rfl | (simp; done) | (simp [*]; done)), H', ⟨by have := HK1.out; omega⟩, ⟨by (with_reducible repeat (first | apply Kd.R_alloc | apply Kd.R_drewN | apply Kd.R_drew)); exact Kd.R_mono HO_6.out (fun _ hk => hk.2)⟩, ⟨by (with_reducible repeat (first | apply Kd.R_alloc | apply Kd.R_drewN | apply Kd.R_drew)); first | exact HO276.out | exact Kd.R_mono HO276.out (fun k_ h_ => ne_own_len h_)⟩, ⟨by repeat (first | (with_reducible first | exact HB.out | apply below_alloc | apply pw_below_drewN | apply below_drew1) | exact HB.out)⟩⟩
            · rw [if_neg c6] at H
              exact absurd H (by simp)
          · rw [if_neg c5] at H
            have c5b0 : ((Go.bits .and .i64 (rd l0 x8_1) a1) == 0) = false := beq_eq_false_iff_ne.mpr c5
            have c5b1 : ((Go.bits .and .i64 (rd l0 x8_1) a1) != 0) = true := bne_iff_ne.mpr c5
            by_cases c8 : x6_1.length < 17592186044416
            · rw [if_pos c8] at H
              have LMc8 := Aside0.mk c8
              clear c8
              obtain ⟨y278, hy278⟩ : ∃ y_ : List Int, y_ = (x6_1 ++ [rd l0 x8_1]) := ⟨_, rfl⟩
              replace H : (neonwrightref05_split.l0 k1 l0 a1 y278 x7_1 (wrap64 (x8_1 + 1))) = some (r1, r2) := by first | (rw [hy278]; with_reducible exact H) | (have H2_ := (Option.bind_some _ _).symm.trans H; rw [hy278]; with_reducible exact H2_) | (have H2_ := (Option.bind_some _ _).symm.trans H; with_reducible exact H2_) | with_reducible exact H | (rw [hy278]; exact H) | exact H
              have Ny278 := Aside0.mk hy278
              clear hy278
              have H' := Aside0.mk H
              clear H
              have p272 : 0 ≤ (x8_1 : Int) := of_decide_eq_true (by first | (with_reducible assumption) | assumption)
              have q272 : x8_1 < (l0.length : Int) := of_decide_eq_true (by first | (with_reducible assumption) | assumption)
              obtain ⟨ad272, e272, hx272_0⟩ := Kd.at_int HR0.out x8_1 p272 q272
              cases e272
              replace hx272_0 := (HB.out.cell (World.block_lt_of_cell? w _ hx272_0)).trans hx272_0
              replace p272 := eq_true p272
              replace q272 := eq_true q272
              have p277 : 0 ≤ (x8_1 : Int) := of_decide_eq_true (by first | (with_reducible assumption) | assumption)
              have q277 : x8_1 < (l0.length : Int) := of_decide_eq_true (by first | (with_reducible assumption) | assumption)
              obtain ⟨ad277, e277, hx277_0⟩ := Kd.at_int HR0.out x8_1 p277 q277
              obtain rfl : ad272 = ad277 := (by injection e277)
              replace hx277_0 := (HB.out.cell (World.block_lt_of_cell? w _ hx277_0)).trans hx277_0
              replace p277 := eq_true p277
              replace q277 := eq_true q277
              go_wp2_with (first | ((with_reducible refine gate_builtin (b := .append) (xs := #[.tmp 22, .tmp 27]) rfl ?_); at_builtin; refine Kd.R_append (Kd.int .i64) (w0 := w) w.heap.size rfl (.tmp 22) (.tmp 27) 25 3 (.int .i64 0) 8 rfl Tryd.underlying25 info3 rfl (by decide) (by omega) u6 x6_1 (rd l0 x8_1) [.int .i64 (rd l0 x8_1)] (fun k_ => some k_ ≠ (u7 : Value).ownBlock) (fun _ => False) rfl rfl ?aP (fun _ hk => hk.elim) ?aF ?aO ?aB ?aS ?aL ?_; (case aP => exact rfl); (case aB => exact (by repeat (first | (with_reducible first | exact HB.out | apply below_alloc | apply pw_below_drewN | apply below_drew1) | exact HB.out))); (case aF => exact (fun k_ hk => Kd.fresh' (Kd.R_lt (by (with_reducible repeat (first | apply Kd.R_alloc | apply Kd.R_drewN | apply Kd.R_drew)); exact HO_7.out)) k_ hk)); (case aO => exact (by (with_reducible repeat (first | apply Kd.R_alloc | apply Kd.R_drewN | apply Kd.R_drew)); exact HO_6.out)); (case aS => exact (below_size (by repeat (first | (with_reducible first | exact HB.out | apply below_alloc | apply pw_below_drewN | apply below_drew1) | exact HB.out)))); (case aL => have := LMc8.out; omega); intro v279 w9 ho hb hg hat; rw [← Ny278.out] at ho; have n0_ := Aside0.mk (Kd.R_after (ok := (fun _ => True)) (by (with_reducible repeat (first | apply Kd.R_alloc | apply Kd.R_drewN | apply Kd.R_drew)); exact Kd.R_mono HO_7.out (fun _ hk => ⟨trivial, hk⟩)) hg hat); have n1_ := Aside0.mk (hb); have n2_ := Aside0.mk (ho); clear HO_7; clear HB; clear HO_6; have HO_7 := n0_; have HB := n1_; have HO280 := n2_; clear n0_ n1_ n2_; clear ho hb hg hat))
              go_roundg k1
              case measure => have := HK1.out; omega
              case rel => exact ⟨(y278), (x7_1), (wrap64 (x8_1 + 1)), (by first | rfl | (simp; done) | (simp [*]; done)), H', ⟨by have := HK1.out; omega⟩, ⟨by (with_reducible repeat (first | apply Kd.R_alloc | apply Kd.R_drewN | apply Kd.R_drew)); first | exact HO280.out | exact Kd.R_mono HO280.out (fun k_ h_ => ne_own_len h_)⟩, ⟨by (with_reducible repeat (first | apply Kd.R_alloc | apply Kd.R_drewN | apply Kd.R_drew)); exact Kd.R_mono HO_7.out (fun _ hk => hk.2)⟩, ⟨by repeat (first | (with_reducible first | exact HB.out | apply below_alloc | apply pw_below_drewN | apply below_drew1) | exact HB.out)⟩⟩
            · rw [if_neg c8] at H
              exact absurd H (by simp)
        · rw [if_neg c4] at H
          exact absurd H (by simp)
      · rw [if_neg c3] at H
        have c3b0 : decide (x8_1 < (l0.length : Int)) = false := decide_eq_false c3
        clear c3
        simp only [Option.some.injEq, Prod.mk.injEq] at H
        obtain ⟨rfl, rfl⟩ := H
        go_wp2
        go_ret2
        exact ⟨_, _, by first | rfl | (simp [errW_none, errW_some] <;> rfl) | (simp [*, errW_none, errW_some] <;> rfl), by (with_reducible repeat (first | apply Kd.R_alloc | apply Kd.R_drewN | apply Kd.R_drew)); exact HO_6.out, by (with_reducible repeat (first | apply Kd.R_alloc | apply Kd.R_drewN | apply Kd.R_drew)); exact HO_7.out, by repeat (first | (with_reducible first | exact HB.out | apply below_alloc | apply pw_below_drewN | apply below_drew1) | exact HB.out)⟩

end Go.Proofs.YtglajokjiphafaaDoor.P

namespace Go.Proofs.YtglajokjiphafaaDoor.P
open Go.RowKit Go.Proofs.YtglajokjiphafaaDoorW.PrintWords Go.Proofs.YtglajokjiphafaaDoorW.PrintLast Go.Proofs.YtglajokjiphafaaDoorW.PrintMore
attribute [local go_sem] max2_int min2_int max_two min_two max_three min_three max_four min_four   -- for this text's walks alone
set_option linter.unusedVariables false
set_option linter.unusedSimpArgs false

/-! ### neonwrightref05_can: function 58 -/
mutual
def neonwrightref05_can.l0 : Nat → Int → List Int → Int → Int → Option (Bool)
  | 0, _, _, _, _ => none
  | k + 1, x0, x1, x2, x7 => if 0 ≤ x0 then (if x7 < (shl .i64 1 x0) then ((neonwrightref05_split.f k x1 x7).bind fun bt281 => (if (bt281.1.length : Int) > 0 then (if (bt281.2.length : Int) > 0 then (if 0 ≤ (wrap64 (x2 - 1)) then (if (bt281.1.length : Int) ≤ (shl .i64 1 (wrap64 (x2 - 1))) then (if (bt281.2.length : Int) ≤ (shl .i64 1 (wrap64 (x2 - 1))) then ((neonwrightref05_can.f k x0 bt281.1 (wrap64 (x2 - 1))).bind fun t287 => (if t287 = true then ((neonwrightref05_can.f k x0 bt281.2 (wrap64 (x2 - 1))).bind fun t288 => (if t288 = true then (some true) else (neonwrightref05_can.l0 k x0 x1 x2 (wrap64 (x7 + 1))))) else (neonwrightref05_can.l0 k x0 x1 x2 (wrap64 (x7 + 1))))) else (neonwrightref05_can.l0 k x0 x1 x2 (wrap64 (x7 + 1)))) else (neonwrightref05_can.l0 k x0 x1 x2 (wrap64 (x7 + 1)))) else (none)) else (neonwrightref05_can.l0 k x0 x1 x2 (wrap64 (x7 + 1)))) else (neonwrightref05_can.l0 k x0 x1 x2 (wrap64 (x7 + 1))))) else (some false)) else (none)
def neonwrightref05_can.f : Nat → Int → List Int → Int → Option (Bool)
  | 0, _, _, _ => none
  | k + 1, a0, l1, a2 => if (l1.length : Int) ≤ 1 then (some true) else (if 0 ≤ a2 then (if (l1.length : Int) > (shl .i64 1 a2) then (some false) else (neonwrightref05_can.l0 k a0 l1 a2 1)) else (none))
end
theorem neonwrightref05_can.mono_l : ∀ k, (∀ y0 y1 y2, LeO (neonwrightref05_can.f k y0 y1 y2) (neonwrightref05_can.f (k + 1) y0 y1 y2)) ∧ (∀ y0 y1 y2 y3, LeO (neonwrightref05_can.l0 k y0 y1 y2 y3) (neonwrightref05_can.l0 (k + 1) y0 y1 y2 y3))
  | 0 => ⟨fun _ _ _ r h => by simp [neonwrightref05_can.f] at h, fun _ _ _ _ r h => by simp [neonwrightref05_can.l0] at h⟩
  | k + 1 => by
    obtain ⟨ih0, ih1⟩ := neonwrightref05_can.mono_l k
    refine ⟨?_, ?_⟩
    · intro y0 y1 y2
      unfold neonwrightref05_can.f
      repeat' first
      | (with_reducible exact ih0 _ _ _)
      | (with_reducible exact ih1 _ _ _ _)
      | (with_reducible exact neonwrightref05_split.mono _ _ _)
      | (with_reducible exact LeO.refl _)
      | (with_reducible exact LeO.none _)
      | (with_reducible refine LeO.ite ?_ ?_)
      | (with_reducible refine LeO.bind ?_ (fun _ => ?_))
      | exact ih0 _ _ _
      | exact ih1 _ _ _ _
      | exact neonwrightref05_split.mono _ _ _
      | exact LeO.none _
      | refine LeO.ite ?_ ?_
      | refine LeO.bind ?_ (fun _ => ?_)
    · intro y0 y1 y2 y3
      unfold neonwrightref05_can.l0
      repeat' first
      | (with_reducible exact ih0 _ _ _)
      | (with_reducible exact ih1 _ _ _ _)
      | (with_reducible exact neonwrightref05_split.mono _ _ _)
      | (with_reducible exact LeO.refl _)
      | (with_reducible exact LeO.none _)
      | (with_reducible refine LeO.ite ?_ ?_)
      | (with_reducible refine LeO.bind ?_ (fun _ => ?_))
      | exact ih0 _ _ _
      | exact ih1 _ _ _ _
      | exact neonwrightref05_split.mono _ _ _
      | exact LeO.none _
      | refine LeO.ite ?_ ?_
      | refine LeO.bind ?_ (fun _ => ?_)
theorem neonwrightref05_can.mono : ∀ a0 a1 a2 k, LeO (neonwrightref05_can.f k a0 a1 a2) (neonwrightref05_can.f (k + 1) a0 a1 a2) := by
  intro a0 a1 a2 k
  obtain ⟨ih0, ih1⟩ := neonwrightref05_can.mono_l k
  exact ih0 a0 a1 a2
set_option maxHeartbeats 8000000 in
set_option maxRecDepth 100000 in
theorem neonwrightref05_can.calls (k : Nat) : ∀ (a0 : Int) (A1 : Option Addr) (c1 : Nat) (l1 : List Int) (a2 : Int) (r : Bool) (w : World) (hr1 : Kd.C (Kd.int .i64) w A1 l1.length l1) (hc1 : l1.length ≤ c1) (h : neonwrightref05_can.f k a0 l1 a2 = some r),
    Calls Tryd.prog 58 #[.int .i64 a0, .slice A1 l1.length c1, .int .i64 a2] w fun e w' => e = .returned (.bool r) ∧ Below w.heap.size w w' := by
  induction k using Nat.strongRecOn with
  | _ k ih =>
  intro a0 A1 c1 l1 a2 r w hr1 hc1 h
  cases k with
  | zero => exact absurd h (by simp [neonwrightref05_can.f])
  | succ k =>
  simp only [neonwrightref05_can.f] at h
  have HR1 := Aside0.mk hr1
  have HC1 := Aside0.mk hc1
  clear hr1 hc1
  have HB := Aside0.mk (Below.refl w.heap.size w)
  have H : (if (l1.length : Int) ≤ 1 then (some true) else (if 0 ≤ a2 then (if (l1.length : Int) > (shl .i64 1 a2) then (some false) else (neonwrightref05_can.l0 k a0 l1 a2 1)) else (none))) = some r := h
  clear h
  by_cases c4 : (l1.length : Int) ≤ 1
  · rw [if_pos c4] at H
    have c4b0 : decide ((l1.length : Int) ≤ 1) = true := decide_eq_true c4
    have c4b1 : decide (l1.length ≤ 1) = true := decide_eq_true (by omega)
    clear c4
    obtain rfl := Option.some.inj H
    go_enter Tryd.func58, Tryd.ntmps58
    go_wp2
    go_ret
    exact ⟨by first | rfl | (simp [errW_none, errW_some] <;> rfl) | (simp [*, errW_none, errW_some] <;> rfl), by repeat (first | (with_reducible first | exact HB.out | apply below_alloc | apply pw_below_drewN | apply below_drew1) | exact HB.out)⟩
  · rw [if_neg c4] at H
    have c4b0 : decide ((l1.length : Int) ≤ 1) = false := decide_eq_false c4
    have c4b1 : decide (l1.length ≤ 1) = false := decide_eq_false (by omega)
    clear c4
    by_cases c5 : 0 ≤ a2
    · rw [if_pos c5] at H
      have c5b0 := eq_true c5
      have c5b1 : decide (0 ≤ a2) = true := decide_eq_true c5
      clear c5
      obtain ⟨ji6, hji6⟩ : ∃ j_ : Int, (shl .i64 1 a2) = j_ := ⟨_, rfl⟩
      replace H : (if (l1.length : Int) > (ji6) then (some false) else (neonwrightref05_can.l0 k a0 l1 a2 1)) = some r := by first | (rw [hji6] at H; exact H) | (simp only [hji6] at H ⊢; exact H)
      have hji6_ : (IntKind.i64.wrap (1 * 2 ^ min a2.toNat 64)) = ji6 := hji6
      have hji6z : a2 ≤ 64 → (IntKind.i64.wrap (1 * 2 ^ a2.toNat)) = ji6 := shl_small hji6
      have hji6u : (IntKind.i64.wrap (2 ^ min a2.toNat 64)) = ji6 := by have h_ := hji6_; rw [Int.one_mul] at h_; exact h_
      have hji6v : a2 ≤ 64 → (IntKind.i64.wrap (2 ^ a2.toNat)) = ji6 := fun hle_ => by have h_ := hji6z hle_; rw [Int.one_mul] at h_; exact h_
      have hji6y : (wrap64 (1 * 2 ^ min a2.toNat 64)) = ji6 := (i64_w _).symm.trans hji6_
      have hji6x : a2 ≤ 64 → (wrap64 (1 * 2 ^ a2.toNat)) = ji6 := fun h_ => (i64_w _).symm.trans (hji6z h_)
      by_cases c7 : (l1.length : Int) > (ji6)
      · rw [if_pos c7] at H
        have c7b0 : decide ((ji6) < (l1.length : Int)) = true := decide_eq_true c7
        clear c7
        obtain rfl := Option.some.inj H
        go_enter Tryd.func58, Tryd.ntmps58
        go_wp2
        go_ret
        exact ⟨by first | rfl | (simp [errW_none, errW_some] <;> rfl) | (simp only [← hji6]; first | rfl | (simp [errW_none, errW_some] <;> rfl)) | (simp [*, errW_none, errW_some] <;> rfl), by repeat (first | (with_reducible first | exact HB.out | apply below_alloc | apply pw_below_drewN | apply below_drew1) | exact HB.out)⟩
      · rw [if_neg c7] at H
        have c7b0 : decide ((ji6) < (l1.length : Int)) = false := decide_eq_false c7
        clear c7
        have H' := Aside0.mk H
        clear H
        go_enter Tryd.func58, Tryd.ntmps58
        go_wp2
        go_loopg [7] k (fun kq v7 w' => ∃ (x7_1 : Int), v7 = .int .i64 x7_1 ∧ Aside0 (neonwrightref05_can.l0 kq a0 l1 a2 x7_1 = some r) ∧ Aside0 (kq ≤ k) ∧ Aside0 (Below w.heap.size w w'))
        case atStart => exact ⟨(1), (by first | rfl | (simp; done) | (simp [*]; done)), H', ⟨Nat.le_refl _⟩, ⟨by repeat (first | (with_reducible first | exact HB.out | apply below_alloc | apply pw_below_drewN | apply below_drew1) | exact HB.out)⟩⟩
        case round =>
          clear H'
          try clear c1
          try clear p2
          try clear c4
          try clear c4b0
          try clear c4b1
          try clear c5
          try clear c5b0
          try clear c5b1
          try clear p6
          try clear c7
          try clear c7b0
          obtain ⟨x7_1, rfl, HA, HK1, HB⟩ := hrel
          cases gk with
          | zero => exact absurd HA.out (by simp [neonwrightref05_can.l0])
          | succ k1 =>
            have H := HA.out
            clear HA
            simp only [neonwrightref05_can.l0] at H
            by_cases c8 : 0 ≤ a0
            · rw [if_pos c8] at H
              have c8b0 := eq_true c8
              have c8b1 : decide (0 ≤ a0) = true := decide_eq_true c8
              clear c8
              obtain ⟨ji9, hji9⟩ : ∃ j_ : Int, (shl .i64 1 a0) = j_ := ⟨_, rfl⟩
              replace H : (if x7_1 < (ji9) then ((neonwrightref05_split.f k1 l1 x7_1).bind fun bt281 => (if (bt281.1.length : Int) > 0 then (if (bt281.2.length : Int) > 0 then (if 0 ≤ (wrap64 (a2 - 1)) then (if (bt281.1.length : Int) ≤ (shl .i64 1 (wrap64 (a2 - 1))) then (if (bt281.2.length : Int) ≤ (shl .i64 1 (wrap64 (a2 - 1))) then ((neonwrightref05_can.f k1 a0 bt281.1 (wrap64 (a2 - 1))).bind fun t287 => (if t287 = true then ((neonwrightref05_can.f k1 a0 bt281.2 (wrap64 (a2 - 1))).bind fun t288 => (if t288 = true then (some true) else (neonwrightref05_can.l0 k1 a0 l1 a2 (wrap64 (x7_1 + 1))))) else (neonwrightref05_can.l0 k1 a0 l1 a2 (wrap64 (x7_1 + 1))))) else (neonwrightref05_can.l0 k1 a0 l1 a2 (wrap64 (x7_1 + 1)))) else (neonwrightref05_can.l0 k1 a0 l1 a2 (wrap64 (x7_1 + 1)))) else (none)) else (neonwrightref05_can.l0 k1 a0 l1 a2 (wrap64 (x7_1 + 1)))) else (neonwrightref05_can.l0 k1 a0 l1 a2 (wrap64 (x7_1 + 1))))) else (some false)) = some r := by first | (rw [hji9] at H; exact H) | (simp only [hji9] at H ⊢; exact H)
              have hji9_ : (IntKind.i64.wrap (1 * 2 ^ min a0.toNat 64)) = ji9 := hji9
              have hji9z : a0 ≤ 64 → (IntKind.i64.wrap (1 * 2 ^ a0.toNat)) = ji9 := shl_small hji9
              have hji9u : (IntKind.i64.wrap (2 ^ min a0.toNat 64)) = ji9 := by have h_ := hji9_; rw [Int.one_mul] at h_; exact h_
              have hji9v : a0 ≤ 64 → (IntKind.i64.wrap (2 ^ a0.toNat)) = ji9 := fun hle_ => by have h_ := hji9z hle_; rw [Int.one_mul] at h_; exact h_
              have hji9y : (wrap64 (1 * 2 ^ min a0.toNat 64)) = ji9 := (i64_w _).symm.trans hji9_
              have hji9x : a0 ≤ 64 → (wrap64 (1 * 2 ^ a0.toNat)) = ji9 := fun h_ => (i64_w _).symm.trans (hji9z h_)
              by_cases c10 : x7_1 < (ji9)
              · rw [if_pos c10] at H
                have c10b0 : decide (x7_1 < (ji9)) = true := decide_eq_true c10
                clear c10
                replace H := Option.bind_eq_some_iff.mp H
                obtain ⟨⟨t281, t282⟩, A110, H⟩ := H
                replace H : (if (t281.length : Int) > 0 then (if (t282.length : Int) > 0 then (if 0 ≤ (wrap64 (a2 - 1)) then (if (t281.length : Int) ≤ (shl .i64 1 (wrap64 (a2 - 1))) then (if (t282.length : Int) ≤ (shl .i64 1 (wrap64 (a2 - 1))) then ((neonwrightref05_can.f k1 a0 t281 (wrap64 (a2 - 1))).bind fun t287 => (if t287 = true then ((neonwrightref05_can.f k1 a0 t282 (wrap64 (a2 - 1))).bind fun t288 => (if t288 = true then (some true) else (neonwrightref05_can.l0 k1 a0 l1 a2 (wrap64 (x7_1 + 1))))) else (neonwrightref05_can.l0 k1 a0 l1 a2 (wrap64 (x7_1 + 1))))) else (neonwrightref05_can.l0 k1 a0 l1 a2 (wrap64 (x7_1 + 1)))) else (neonwrightref05_can.l0 k1 a0 l1 a2 (wrap64 (x7_1 + 1)))) else (none)) else (neonwrightref05_can.l0 k1 a0 l1 a2 (wrap64 (x7_1 + 1)))) else (neonwrightref05_can.l0 k1 a0 l1 a2 (wrap64 (x7_1 + 1)))) = some r := H
                have A11 := Aside0.mk A110
                clear A110
                by_cases c12 : (t281.length : Int) > 0
                · rw [if_pos c12] at H
                  have c12b0 : decide (0 < (t281.length : Int)) = true := decide_eq_true c12
                  have c12b1 : decide (0 < t281.length) = true := decide_eq_true (by omega)
                  clear c12
                  by_cases c13 : (t282.length : Int) > 0
                  · rw [if_pos c13] at H
                    have c13b0 : decide (0 < (t282.length : Int)) = true := decide_eq_true c13
                    have c13b1 : decide (0 < t282.length) = true := decide_eq_true (by omega)
                    clear c13
                    obtain ⟨ji14, hji14⟩ : ∃ j_ : Int, (wrap64 (a2 - 1)) = j_ := ⟨_, rfl⟩
                    replace H : (if 0 ≤ (ji14) then (if (t281.length : Int) ≤ (shl .i64 1 (ji14)) then (if (t282.length : Int) ≤ (shl .i64 1 (ji14)) then ((neonwrightref05_can.f k1 a0 t281 (ji14)).bind fun t287 => (if t287 = true then ((neonwrightref05_can.f k1 a0 t282 (ji14)).bind fun t288 => (if t288 = true then (some true) else (neonwrightref05_can.l0 k1 a0 l1 a2 (wrap64 (x7_1 + 1))))) else (neonwrightref05_can.l0 k1 a0 l1 a2 (wrap64 (x7_1 + 1))))) else (neonwrightref05_can.l0 k1 a0 l1 a2 (wrap64 (x7_1 + 1)))) else (neonwrightref05_can.l0 k1 a0 l1 a2 (wrap64 (x7_1 + 1)))) else (none)) = some r := by first | (rw [hji14] at H; exact H) | (simp only [hji14] at H ⊢; exact H)
                    (try rw [hji14] at A11)
                    have hji14w : (IntKind.i64.wrap (a2 - 1)) = ji14 := (i64_w _).trans hji14
                    by_cases c15 : 0 ≤ (ji14)
                    · rw [if_pos c15] at H
                      have c15b0 := eq_true c15
                      have c15b1 : decide (0 ≤ (ji14)) = true := decide_eq_true c15
                      clear c15
                      obtain ⟨ji16, hji16⟩ : ∃ j_ : Int, (shl .i64 1 (ji14)) = j_ := ⟨_, rfl⟩
                      replace H : (if (t281.length : Int) ≤ (ji16) then (if (t282.length : Int) ≤ (ji16) then ((neonwrightref05_can.f k1 a0 t281 (ji14)).bind fun t287 => (if t287 = true then ((neonwrightref05_can.f k1 a0 t282 (ji14)).bind fun t288 => (if t288 = true then (some true) else (neonwrightref05_can.l0 k1 a0 l1 a2 (wrap64 (x7_1 + 1))))) else (neonwrightref05_can.l0 k1 a0 l1 a2 (wrap64 (x7_1 + 1))))) else (neonwrightref05_can.l0 k1 a0 l1 a2 (wrap64 (x7_1 + 1)))) else (neonwrightref05_can.l0 k1 a0 l1 a2 (wrap64 (x7_1 + 1)))) = some r := by first | (rw [hji16] at H; exact H) | (simp only [hji16] at H ⊢; exact H)
                      (try rw [hji16] at A11)
                      have hji16_ : (IntKind.i64.wrap (1 * 2 ^ min (ji14).toNat 64)) = ji16 := hji16
                      have hji16z : (ji14) ≤ 64 → (IntKind.i64.wrap (1 * 2 ^ (ji14).toNat)) = ji16 := shl_small hji16
                      have hji16u : (IntKind.i64.wrap (2 ^ min (ji14).toNat 64)) = ji16 := by have h_ := hji16_; rw [Int.one_mul] at h_; exact h_
                      have hji16v : (ji14) ≤ 64 → (IntKind.i64.wrap (2 ^ (ji14).toNat)) = ji16 := fun hle_ => by have h_ := hji16z hle_; rw [Int.one_mul] at h_; exact h_
                      have hji16y : (wrap64 (1 * 2 ^ min (ji14).toNat 64)) = ji16 := (i64_w _).symm.trans hji16_
                      have hji16x : (ji14) ≤ 64 → (wrap64 (1 * 2 ^ (ji14).toNat)) = ji16 := fun h_ => (i64_w _).symm.trans (hji16z h_)
                      by_cases c17 : (t281.length : Int) ≤ (ji16)
                      · rw [if_pos c17] at H
                        have c17b0 : decide ((t281.length : Int) ≤ (ji16)) = true := decide_eq_true c17
                        clear c17
                        have c18b0 := eq_true (of_decide_eq_true (by first | (with_reducible assumption) | assumption) : 0 ≤ (ji14))
                        by_cases c20 : (t282.length : Int) ≤ (ji16)
                        · rw [if_pos c20] at H
                          have c20b0 : decide ((t282.length : Int) ≤ (ji16)) = true := decide_eq_true c20
                          clear c20
                          replace H := Option.bind_eq_some_iff.mp H
                          obtain ⟨t287, A210, H⟩ := H
                          replace H : (if t287 = true then ((neonwrightref05_can.f k1 a0 t282 (ji14)).bind fun t288 => (if t288 = true then (some true) else (neonwrightref05_can.l0 k1 a0 l1 a2 (wrap64 (x7_1 + 1))))) else (neonwrightref05_can.l0 k1 a0 l1 a2 (wrap64 (x7_1 + 1)))) = some r := H
                          have A21 := Aside0.mk A210
                          clear A210
                          by_cases c22 : t287 = true
                          · subst c22
                            have H1 : ((neonwrightref05_can.f k1 a0 t282 (ji14)).bind fun t288 => (if t288 = true then (some true) else (neonwrightref05_can.l0 k1 a0 l1 a2 (wrap64 (x7_1 + 1))))) = some r := by rw [if_pos rfl] at H; exact H
                            clear H
                            have H := H1
                            clear H1
                            replace H := Option.bind_eq_some_iff.mp H
                            obtain ⟨t288, A230, H⟩ := H
                            replace H : (if t288 = true then (some true) else (neonwrightref05_can.l0 k1 a0 l1 a2 (wrap64 (x7_1 + 1)))) = some r := H
                            have A23 := Aside0.mk A230
                            clear A230
                            by_cases c24 : t288 = true
                            · subst c24
                              have H1 : (some true) = some r := by rw [if_pos rfl] at H; exact H
                              clear H
                              have H := H1
                              clear H1
                              obtain rfl := Option.some.inj H
                              go_wp2_with (first | ((with_reducible refine gate_callee (f := 86) rfl ?_); refine goesL_ (some 27) rfl rfl Tryd.func86 (by kernel_rfl) rfl #[.slice A1 l1.length c1, .int .i64 x7_1] rfl (by (try simp only [List.map_toArray, List.map_cons, List.map_nil]); first | done | rfl | (simp only [List.length_drop, List.length_take]; rfl)) ?_; (with_reducible refine (neonwrightref05_split.calls k1 _ _ l1 x7_1 t281 t282 _ ?side1 ?side2 A11.out).mono ?_); (case side1 => repeat (first | exact (Kd.C_below HR1.out HB.out) | (with_reducible refine Kd.C_alloc ?_ _) | (with_reducible refine Kd.C_drewN ?_ _) | (with_reducible refine Kd.C_drew ?_))); (case side2 => exact HC1.out); rintro e w25 ⟨v283, v285, rfl, ho0, ho1, hb⟩; refine ⟨_, rfl, ?_⟩; have n0_ := Aside0.mk (Kd.R_lower ho0 (below_size (by repeat (first | (with_reducible first | exact HB.out | apply below_alloc | apply pw_below_drewN | apply below_drew1) | exact HB.out)))); have n1_ := Aside0.mk (Kd.R_lower ho1 (below_size (by repeat (first | (with_reducible first | exact HB.out | apply below_alloc | apply pw_below_drewN | apply below_drew1) | exact HB.out)))); have n2_ := Aside0.mk (below_step (by repeat (first | (with_reducible first | exact HB.out | apply below_alloc | apply pw_below_drewN | apply below_drew1) | exact HB.out)) hb); clear HB; have HO284 := n0_; have HO286 := n1_; have HB := n2_; clear n0_ n1_ n2_; (try clear hb); (try clear hb2); (try clear hk); (try clear hi); (try clear ho0); (try clear ho1); obtain ⟨Ao26, co26, eo26⟩ := Kd.R_slice HO284.out; subst eo26; obtain ⟨Ao27, co27, eo27⟩ := Kd.R_slice HO286.out; subst eo27) | (go_at_call 58; (with_reducible refine (ih k1 (by have := HK1.out; omega) a0 _ _ t281 ji14 true _ ?side1 ?side2 A21.out).mono ?_); (case side1 => repeat (first | exact (Kd.R_reads' HO284.out).2.2 | (with_reducible refine Kd.C_alloc ?_ _) | (with_reducible refine Kd.C_drewN ?_ _) | (with_reducible refine Kd.C_drew ?_))); (case side2 => exact (Kd.R_reads' HO284.out).2.1); rintro e w28 ⟨rfl, hb⟩; have n0_ := Aside0.mk (Kd.R_below (by (with_reducible repeat (first | apply Kd.R_alloc | apply Kd.R_drewN | apply Kd.R_drew)); exact HO284.out) hb); have n1_ := Aside0.mk (Kd.R_below (by (with_reducible repeat (first | apply Kd.R_alloc | apply Kd.R_drewN | apply Kd.R_drew)); exact HO286.out) hb); have n2_ := Aside0.mk (below_step (by repeat (first | (with_reducible first | exact HB.out | apply below_alloc | apply pw_below_drewN | apply below_drew1) | exact HB.out)) hb); clear HO284; clear HO286; clear HB; have HO284 := n0_; have HO286 := n1_; have HB := n2_; clear n0_ n1_ n2_; (try clear hb); (try clear hb2); (try clear hk); (try clear hi)) | (go_at_call 58; (with_reducible refine (ih k1 (by have := HK1.out; omega) a0 _ _ t282 ji14 true _ ?side1 ?side2 A23.out).mono ?_); (case side1 => repeat (first | exact (Kd.R_reads' HO286.out).2.2 | (with_reducible refine Kd.C_alloc ?_ _) | (with_reducible refine Kd.C_drewN ?_ _) | (with_reducible refine Kd.C_drew ?_))); (case side2 => exact (Kd.R_reads' HO286.out).2.1); rintro e w29 ⟨rfl, hb⟩; have n0_ := Aside0.mk (Kd.R_below (by (with_reducible repeat (first | apply Kd.R_alloc | apply Kd.R_drewN | apply Kd.R_drew)); exact HO284.out) hb); have n1_ := Aside0.mk (Kd.R_below (by (with_reducible repeat (first | apply Kd.R_alloc | apply Kd.R_drewN | apply Kd.R_drew)); exact HO286.out) hb); have n2_ := Aside0.mk (below_step (by repeat (first | (with_reducible first | exact HB.out | apply below_alloc | apply pw_below_drewN | apply below_drew1) | exact HB.out)) hb); clear HO284; clear HO286; clear HB; have HO284 := n0_; have HO286 := n1_; have HB := n2_; clear n0_ n1_ n2_; (try clear hb); (try clear hb2); (try clear hk); (try clear hi)))
                              go_ret
                              exact ⟨by first | rfl | (simp [errW_none, errW_some] <;> rfl) | (simp only [← hji6, ← hji9, ← hji14, ← hji16]; first | rfl | (simp [errW_none, errW_some] <;> rfl)) | (simp [*, errW_none, errW_some] <;> rfl), by repeat (first | (with_reducible first | exact HB.out | apply below_alloc | apply pw_below_drewN | apply below_drew1) | exact HB.out)⟩
                            · replace c24 := Bool.eq_false_iff.mpr c24
                              subst c24
                              have H1 : (neonwrightref05_can.l0 k1 a0 l1 a2 (wrap64 (x7_1 + 1))) = some r := by rw [if_neg (show ¬ (false = true) by decide)] at H; exact H
                              clear H
                              have H := H1
                              clear H1
                              have H' := Aside0.mk H
                              clear H
                              go_wp2_with (first | ((with_reducible refine gate_callee (f := 86) rfl ?_); refine goesL_ (some 27) rfl rfl Tryd.func86 (by kernel_rfl) rfl #[.slice A1 l1.length c1, .int .i64 x7_1] rfl (by (try simp only [List.map_toArray, List.map_cons, List.map_nil]); first | done | rfl | (simp only [List.length_drop, List.length_take]; rfl)) ?_; (with_reducible refine (neonwrightref05_split.calls k1 _ _ l1 x7_1 t281 t282 _ ?side1 ?side2 A11.out).mono ?_); (case side1 => repeat (first | exact (Kd.C_below HR1.out HB.out) | (with_reducible refine Kd.C_alloc ?_ _) | (with_reducible refine Kd.C_drewN ?_ _) | (with_reducible refine Kd.C_drew ?_))); (case side2 => exact HC1.out); rintro e w30 ⟨v283, v285, rfl, ho0, ho1, hb⟩; refine ⟨_, rfl, ?_⟩; have n0_ := Aside0.mk (Kd.R_lower ho0 (below_size (by repeat (first | (with_reducible first | exact HB.out | apply below_alloc | apply pw_below_drewN | apply below_drew1) | exact HB.out)))); have n1_ := Aside0.mk (Kd.R_lower ho1 (below_size (by repeat (first | (with_reducible first | exact HB.out | apply below_alloc | apply pw_below_drewN | apply below_drew1) | exact HB.out)))); have n2_ := Aside0.mk (below_step (by repeat (first | (with_reducible first | exact HB.out | apply below_alloc | apply pw_below_drewN | apply below_drew1) | exact HB.out)) hb); clear HB; have HO284 := n0_; have HO286 := n1_; have HB := n2_; clear n0_ n1_ n2_; (try clear hb); (try clear hb2); (try clear hk); (try clear hi); (try clear ho0); (try clear ho1); obtain ⟨Ao31, co31, eo31⟩ := Kd.R_slice HO284.out; subst eo31; obtain ⟨Ao32, co32, eo32⟩ := Kd.R_slice HO286.out; subst eo32) | (go_at_call 58; (with_reducible refine (ih k1 (by have := HK1.out; omega) a0 _ _ t281 ji14 true _ ?side1 ?side2 A21.out).mono ?_); (case side1 => repeat (first | exact (Kd.R_reads' HO284.out).2.2 | (with_reducible refine Kd.C_alloc ?_ _) | (with_reducible refine Kd.C_drewN ?_ _) | (with_reducible refine Kd.C_drew ?_))); (case side2 => exact (Kd.R_reads' HO284.out).2.1); rintro e w33 ⟨rfl, hb⟩; have n0_ := Aside0.mk (Kd.R_below (by (with_reducible repeat (first | apply Kd.R_alloc | apply Kd.R_drewN | apply Kd.R_drew)); exact HO284.out) hb); have n1_ := Aside0.mk (Kd.R_below (by (with_reducible repeat (first | apply Kd.R_alloc | apply Kd.R_drewN | apply Kd.R_drew)); exact HO286.out) hb); have n2_ := Aside0.mk (below_step (by repeat (first | (with_reducible first | exact HB.out | apply below_alloc | apply pw_below_drewN | apply below_drew1) | exact HB.out)) hb); clear HO284; clear HO286; clear HB; have HO284 := n0_; have HO286 := n1_; have HB := n2_; clear n0_ n1_ n2_; (try clear hb); (try clear hb2); (try clear hk); (try clear hi)) | (go_at_call 58; (with_reducible refine (ih k1 (by have := HK1.out; omega) a0 _ _ t282 ji14 false _ ?side1 ?side2 A23.out).mono ?_); (case side1 => repeat (first | exact (Kd.R_reads' HO286.out).2.2 | (with_reducible refine Kd.C_alloc ?_ _) | (with_reducible refine Kd.C_drewN ?_ _) | (with_reducible refine Kd.C_drew ?_))); (case side2 => exact (Kd.R_reads' HO286.out).2.1); rintro e w34 ⟨rfl, hb⟩; have n0_ := Aside0.mk (Kd.R_below (by (with_reducible repeat (first | apply Kd.R_alloc | apply Kd.R_drewN | apply Kd.R_drew)); exact HO284.out) hb); have n1_ := Aside0.mk (Kd.R_below (by (with_reducible repeat (first | apply Kd.R_alloc | apply Kd.R_drewN | apply Kd.R_drew)); exact HO286.out) hb); have n2_ := Aside0.mk (below_step (by repeat (first | (with_reducible first | exact HB.out | apply below_alloc | apply pw_below_drewN | apply below_drew1) | exact HB.out)) hb); clear HO284; clear HO286; clear HB; have HO284 := n0_; have HO286 := n1_; have HB := n2_; clear n0_ n1_ n2_; (try clear hb); (try clear hb2); (try clear hk); (try clear hi)))
                              go_roundg k1
                              case measure => have := HK1.out; omega
                              case rel => exact ⟨(wrap64 (x7_1 + 1)), (by first | rfl | (simp; done) | (simp [*]; done)), H', ⟨by have := HK1.out; omega⟩, ⟨by repeat (first | (with_reducible first | exact HB.out | apply below_alloc | apply pw_below_drewN | apply below_drew1) | exact HB.out)⟩⟩
                          · replace c22 := Bool.eq_false_iff.mpr c22
                            subst c22
                            have H1 : (neonwrightref05_can.l0 k1 a0 l1 a2 (wrap64 (x7_1 + 1))) = some r := by rw [if_neg (show ¬ (false = true) by decide)] at H; exact H
                            clear H
                            have H := H1
                            clear H1
                            have H' := Aside0.mk H
                            clear H
                            go_wp2_with (first | ((with_reducible refine gate_callee (f := 86) rfl ?_); refine goesL_ (some 27) rfl rfl Tryd.func86 (by kernel_rfl) rfl #[.slice A1 l1.length c1, .int .i64 x7_1] rfl (by (try simp only [List.map_toArray, List.map_cons, List.map_nil]); first | done | rfl | (simp only [List.length_drop, List.length_take]; rfl)) ?_; (with_reducible refine (neonwrightref05_split.calls k1 _ _ l1 x7_1 t281 t282 _ ?side1 ?side2 A11.out).mono ?_); (case side1 => repeat (first | exact (Kd.C_below HR1.out HB.out) | (with_reducible refine Kd.C_alloc ?_ _) | (with_reducible refine Kd.C_drewN ?_ _) | (with_reducible refine Kd.C_drew ?_))); (case side2 => exact HC1.out); rintro e w35 ⟨v283, v285, rfl, ho0, ho1, hb⟩; refine ⟨_, rfl, ?_⟩; have n0_ := Aside0.mk (Kd.R_lower ho0 (below_size (by repeat (first | (with_reducible first | exact HB.out | apply below_alloc | apply pw_below_drewN | apply below_drew1) | exact HB.out)))); have n1_ := Aside0.mk (Kd.R_lower ho1 (below_size (by repeat (first | (with_reducible first | exact HB.out | apply below_alloc | apply pw_below_drewN | apply below_drew1) | exact HB.out)))); have n2_ := Aside0.mk (below_step (by repeat (first | (with_reducible first | exact HB.out | apply below_alloc | apply pw_below_drewN | apply below_drew1) | exact HB.out)) hb); clear HB; have HO284 := n0_; have HO286 := n1_; have HB := n2_; clear n0_ n1_ n2_; (try clear hb); (try clear hb2); (try clear hk); (try clear hi); (try clear ho0); (try clear ho1); obtain ⟨Ao36, co36, eo36⟩ := Kd.R_slice HO284.out; subst eo36; obtain ⟨Ao37, co37, eo37⟩ := Kd.R_slice HO286.out; subst eo37) | (go_at_call 58; (with_reducible refine (ih k1 (by have := HK1.out; omega) a0 _ _ t281 ji14 false _ ?side1 ?side2 A21.out).mono ?_); (case side1 => repeat (first | exact (Kd.R_reads' HO284.out).2.2 | (with_reducible refine Kd.C_alloc ?_ _) | (with_reducible refine Kd.C_drewN ?_ _) | (with_reducible refine Kd.C_drew ?_))); (case side2 => exact (Kd.R_reads' HO284.out).2.1); rintro e w38 ⟨rfl, hb⟩; have n0_ := Aside0.mk (Kd.R_below (by (with_reducible repeat (first | apply Kd.R_alloc | apply Kd.R_drewN | apply Kd.R_drew)); exact HO284.out) hb); have n1_ := Aside0.mk (Kd.R_below (by (with_reducible repeat (first | apply Kd.R_alloc | apply Kd.R_drewN | apply Kd.R_drew)); exact HO286.out) hb); have n2_ := Aside0.mk (below_step (by repeat (first | (with_reducible first | exact HB.out | apply below_alloc | apply pw_below_drewN | apply below_drew1) | exact HB.out)) hb); clear HO284; clear HO286; clear HB; have HO284 := n0_; have HO286 := n1_; have HB := n2_; clear n0_ n1_ n2_; (try clear hb); (try clear hb2); (try clear hk); (try clear hi)))
                            go_roundg k1
                            case measure => have := HK1.out; omega
                            case rel => exact ⟨(wrap64 (x7_1 + 1)), (by first | rfl | (simp; done) | (simp [*]; done)), H', ⟨by have := HK1.out; omega⟩, ⟨by repeat (first | (with_reducible first | exact HB.out | apply below_alloc | apply pw_below_drewN | apply below_drew1) | exact HB.out)⟩⟩
                        · rw [if_neg c20] at H
                          have c20b0 : decide ((t282.length : Int) ≤ (ji16)) = false := decide_eq_false c20
                          clear c20
                          have H' := Aside0.mk H
                          clear H
                          go_wp2_with (first | ((with_reducible refine gate_callee (f := 86) rfl ?_); refine goesL_ (some 27) rfl rfl Tryd.func86 (by kernel_rfl) rfl #[.slice A1 l1.length c1, .int .i64 x7_1] rfl (by (try simp only [List.map_toArray, List.map_cons, List.map_nil]); first | done | rfl | (simp only [List.length_drop, List.length_take]; rfl)) ?_; (with_reducible refine (neonwrightref05_split.calls k1 _ _ l1 x7_1 t281 t282 _ ?side1 ?side2 A11.out).mono ?_); (case side1 => repeat (first | exact (Kd.C_below HR1.out HB.out) | (with_reducible refine Kd.C_alloc ?_ _) | (with_reducible refine Kd.C_drewN ?_ _) | (with_reducible refine Kd.C_drew ?_))); (case side2 => exact HC1.out); rintro e w39 ⟨v283, v285, rfl, ho0, ho1, hb⟩; refine ⟨_, rfl, ?_⟩; have n0_ := Aside0.mk (Kd.R_lower ho0 (below_size (by repeat (first | (with_reducible first | exact HB.out | apply below_alloc | apply pw_below_drewN | apply below_drew1) | exact HB.out)))); have n1_ := Aside0.mk (Kd.R_lower ho1 (below_size (by repeat (first | (with_reducible first | exact HB.out | apply below_alloc | apply pw_below_drewN | apply below_drew1) | exact HB.out)))); have n2_ := Aside0.mk (below_step (by repeat (first | (with_reducible first | exact HB.out | apply below_alloc | apply pw_below_drewN | apply below_drew1) | exact HB.out)) hb); clear HB; have HO284 := n0_; have HO286 := n1_; have HB := n2_; clear n0_ n1_ n2_; (try clear hb); (try clear hb2); (try clear hk); (try clear hi); (try clear ho0); (try clear ho1); obtain ⟨Ao40, co40, eo40⟩ := Kd.R_slice HO284.out; subst eo40; obtain ⟨Ao41, co41, eo41⟩ := Kd.R_slice HO286.out; subst eo41))
                          go_roundg k1
                          case measure => have := HK1.out; omega
                          case rel => exact ⟨(wrap64 (x7_1 + 1)), (by first | rfl | (simp; done) | (simp [*]; done)), H', ⟨by have := HK1.out; omega⟩, ⟨by repeat (first | (with_reducible first | exact HB.out | apply below_alloc | apply pw_below_drewN | apply below_drew1) | exact HB.out)⟩⟩
                      · rw [if_neg c17] at H
                        have c17b0 : decide ((t281.length : Int) ≤ (ji16)) = false := decide_eq_false c17
                        clear c17
                        have H' := Aside0.mk H
                        clear H
                        go_wp2_with (first | ((with_reducible refine gate_callee (f := 86) rfl ?_); refine goesL_ (some 27) rfl rfl Tryd.func86 (by kernel_rfl) rfl #[.slice A1 l1.length c1, .int .i64 x7_1] rfl (by (try simp only [List.map_toArray, List.map_cons, List.map_nil]); first | done | rfl | (simp only [List.length_drop, List.length_take]; rfl)) ?_; (with_reducible refine (neonwrightref05_split.calls k1 _ _ l1 x7_1 t281 t282 _ ?side1 ?side2 A11.out).mono ?_); (case side1 => repeat (first | exact (Kd.C_below HR1.out HB.out) | (with_reducible refine Kd.C_alloc ?_ _) | (with_reducible refine Kd.C_drewN ?_ _) | (with_reducible refine Kd.C_drew ?_))); (case side2 => exact HC1.out); rintro e w42 ⟨v283, v285, rfl, ho0, ho1, hb⟩; refine ⟨_, rfl, ?_⟩; have n0_ := Aside0.mk (Kd.R_lower ho0 (below_size (by repeat (first | (with_reducible first | exact HB.out | apply below_alloc | apply pw_below_drewN | apply below_drew1) | exact HB.out)))); have n1_ := Aside0.mk (Kd.R_lower ho1 (below_size (by repeat (first | (with_reducible first | exact HB.out | apply below_alloc | apply pw_below_drewN | apply below_drew1) | exact HB.out)))); have n2_ := Aside0.mk (below_step (by repeat (first | (with_reducible first | exact HB.out | apply below_alloc | apply pw_below_drewN | apply below_drew1) | exact HB.out)) hb); clear HB; have HO284 := n0_; have HO286 := n1_; have HB := n2_; clear n0_ n1_ n2_; (try clear hb); (try clear hb2); (try clear hk); (try clear hi); (try clear ho0); (try clear ho1); obtain ⟨Ao43, co43, eo43⟩ := Kd.R_slice HO284.out; subst eo43; obtain ⟨Ao44, co44, eo44⟩ := Kd.R_slice HO286.out; subst eo44))
                        go_roundg k1
                        case measure => have := HK1.out; omega
                        case rel => exact ⟨(wrap64 (x7_1 + 1)), (by first | rfl | (simp; done) | (simp [*]; done)), H', ⟨by have := HK1.out; omega⟩, ⟨by repeat (first | (with_reducible first | exact HB.out | apply below_alloc | apply pw_below_drewN | apply below_drew1) | exact HB.out)⟩⟩
                    · rw [if_neg c15] at H
                      exact absurd H (by simp)
                  · rw [if_neg c13] at H
                    have c13b0 : decide (0 < (t282.length : Int)) = false := decide_eq_false c13
                    have c13b1 : decide (0 < t282.length) = false := decide_eq_false (by omega)
                    clear c13
                    have H' := Aside0.mk H
                    clear H
                    go_wp2_with (first | ((with_reducible refine gate_callee (f := 86) rfl ?_); refine goesL_ (some 27) rfl rfl Tryd.func86 (by kernel_rfl) rfl #[.slice A1 l1.length c1, .int .i64 x7_1] rfl (by (try simp only [List.map_toArray, List.map_cons, List.map_nil]); first | done | rfl | (simp only [List.length_drop, List.length_take]; rfl)) ?_; (with_reducible refine (neonwrightref05_split.calls k1 _ _ l1 x7_1 t281 t282 _ ?side1 ?side2 A11.out).mono ?_); (case side1 => repeat (first | exact (Kd.C_below HR1.out HB.out) | (with_reducible refine Kd.C_alloc ?_ _) | (with_reducible refine Kd.C_drewN ?_ _) | (with_reducible refine Kd.C_drew ?_))); (case side2 => exact HC1.out); rintro e w45 ⟨v283, v285, rfl, ho0, ho1, hb⟩; refine ⟨_, rfl, ?_⟩; have n0_ := Aside0.mk (Kd.R_lower ho0 (below_size (by repeat (first | (with_reducible first | exact HB.out | apply below_alloc | apply pw_below_drewN | apply below_drew1) | exact HB.out)))); have n1_ := Aside0.mk (Kd.R_lower ho1 (below_size (by repeat (first | (with_reducible first | exact HB.out | apply below_alloc | apply pw_below_drewN | apply below_drew1) | exact HB.out)))); have n2_ := Aside0.mk (below_step (by repeat (first | (with_reducible first | exact HB.out | apply below_alloc | apply pw_below_drewN | apply below_drew1) | exact HB.out)) hb); clear HB; have HO284 := n0_; have HO286 := n1_; have HB := n2_; clear n0_ n1_ n2_; (try clear hb); (try clear hb2); (try clear hk); (try clear hi); (try clear ho0); (try clear ho1); obtain ⟨Ao46, co46, eo46⟩ := Kd.R_slice HO284.out; subst eo46; obtain ⟨Ao47, co47, eo47⟩ := Kd.R_slice HO286.out; subst eo47))
                    go_roundg k1
                    case measure => have := HK1.out; omega
                    case rel => exact ⟨(wrap64 (x7_1 + 1)), (by first | rfl | (simp; done) | (simp [*]; done)), H', ⟨by have := HK1.out; omega⟩, ⟨by repeat (first | (with_reducible first | exact HB.out | apply below_alloc | apply pw_below_drewN | apply below_drew1) | exact HB.out)⟩⟩
                · rw [if_neg c12] at H
                  have c12b0 : decide (0 < (t281.length : Int)) = false := decide_eq_false c12
                  have c12b1 : decide (0 < t281.length) = false := decide_eq_false (by omega)
                  clear c12
                  have H' := Aside0.mk H
                  clear H
                  go_wp2_with (first | ((with_reducible refine gate_callee (f := 86) rfl ?_); refine goesL_ (some 27) rfl rfl Tryd.func86 (by kernel_rfl) rfl #[.slice A1 l1.length c1, .int .i64 x7_1] rfl (by (try simp only [List.map_toArray, List.map_cons, List.map_nil]); first | done | rfl | (simp only [List.length_drop, List.length_take]; rfl)) ?_; (with_reducible refine (neonwrightref05_split.calls k1 _ _ l1 x7_1 t281 t282 _ ?side1 ?side2 A11.out).mono ?_); (case side1 => repeat (first | exact (Kd.C_below HR1.out HB.out) | (with_reducible refine Kd.C_alloc ?_ _) | (with_reducible refine Kd.C_drewN ?_ _) | (with_reducible refine Kd.C_drew ?_))); (case side2 => exact HC1.out); rintro e w48 ⟨v283, v285, rfl, ho0, ho1, hb⟩; refine ⟨_, rfl, ?_⟩; have n0_ := Aside0.mk (Kd.R_lower ho0 (below_size (by repeat (first | (with_reducible first | exact HB.out | apply below_alloc | apply pw_below_drewN | apply below_drew1) | exact HB.out)))); have n1_ := Aside0.mk (Kd.R_lower ho1 (below_size (by repeat (first | (with_reducible first | exact HB.out | apply below_alloc | apply pw_below_drewN | apply below_drew1) | exact HB.out)))); have n2_ := Aside0.mk (below_step (by repeat (first | (with_reducible first | exact HB.out | apply below_alloc | apply pw_below_drewN | apply below_drew1) | exact HB.out)) hb); clear HB; have HO284 := n0_; have HO286 := n1_; have HB := n2_; clear n0_ n1_ n2_; (try clear hb); (try clear hb2); (try clear hk); (try clear hi); (try clear ho0); (try clear ho1); obtain ⟨Ao49, co49, eo49⟩ := Kd.R_slice HO284.out; subst eo49))
                  go_roundg k1
                  case measure => have := HK1.out; omega
                  case rel => exact ⟨(wrap64 (x7_1 + 1)), (by first | rfl | (simp; done) | (simp [*]; done)), H', ⟨by have := HK1.out; omega⟩, ⟨by repeat (first | (with_reducible first | exact HB.out | apply below_alloc | apply pw_below_drewN | apply below_drew1) | exact HB.out)⟩⟩
              · rw [if_neg c10] at H
                have c10b0 : decide (x7_1 < (ji9)) = false := decide_eq_false c10
                clear c10
                obtain rfl := Option.some.inj H
                go_wp2
                go_ret
                exact ⟨by first | rfl | (simp [errW_none, errW_some] <;> rfl) | (simp only [← hji6, ← hji9]; first | rfl | (simp [errW_none, errW_some] <;> rfl)) | (simp [*, errW_none, errW_some] <;> rfl), by repeat (first | (with_reducible first | exact HB.out | apply below_alloc | apply pw_below_drewN | apply below_drew1) | exact HB.out)⟩
            · rw [if_neg c8] at H
              exact absurd H (by simp)
    · rw [if_neg c5] at H
      exact absurd H (by simp)

end Go.Proofs.YtglajokjiphafaaDoor.P

namespace Go.Proofs.YtglajokjiphafaaDoor.P
open Go.RowKit Go.Proofs.YtglajokjiphafaaDoorW.PrintWords Go.Proofs.YtglajokjiphafaaDoorW.PrintLast Go.Proofs.YtglajokjiphafaaDoorW.PrintMore
attribute [local go_sem] max2_int min2_int max_two min_two max_three min_three max_four min_four   -- for this text's walks alone
set_option linter.unusedVariables false
set_option linter.unusedSimpArgs false

/-! ### neonwrightref05_Fewest: function 30 -/
def neonwrightref05_Fewest.l0 : Nat → Int → List Int → Int → Option (Int × Int)
  | 0, _, _, _ => none
  | k + 1, x0, x6, x8 => (neonwrightref05_can.f k x0 x6 x8).bind fun t293 => (if t293 = true then (some (x8, 0)) else (neonwrightref05_Fewest.l0 k x0 x6 (wrap64 (x8 + 1))))
def neonwrightref05_Fewest.f (k : Nat) (a0 : Int) (a1 : Int) : Option (Int × Int) := (neonwrightref05_Few.f k a0 a1).bind fun bt289 => (if bt289.2 = true then (neonwrightref05_Fewest.l0 k a0 bt289.1 0) else (some (0, 2)))
theorem neonwrightref05_Fewest.mono_l : ∀ k, (∀ y0 y1 y2, LeO (neonwrightref05_Fewest.l0 k y0 y1 y2) (neonwrightref05_Fewest.l0 (k + 1) y0 y1 y2))
  | 0 => fun _ _ _ r h => by simp [neonwrightref05_Fewest.l0] at h
  | k + 1 => by
    have ih0 := neonwrightref05_Fewest.mono_l k
    · intro y0 y1 y2
      unfold neonwrightref05_Fewest.l0
      repeat' first
      | (with_reducible exact ih0 _ _ _)
      | (with_reducible exact neonwrightref05_Few.mono _ _ _)
      | (with_reducible exact neonwrightref05_can.mono _ _ _ _)
      | (with_reducible exact LeO.refl _)
      | (with_reducible exact LeO.none _)
      | (with_reducible refine LeO.ite ?_ ?_)
      | (with_reducible refine LeO.bind ?_ (fun _ => ?_))
      | exact ih0 _ _ _
      | exact neonwrightref05_Few.mono _ _ _
      | exact neonwrightref05_can.mono _ _ _ _
      | exact LeO.none _
      | refine LeO.ite ?_ ?_
      | refine LeO.bind ?_ (fun _ => ?_)
theorem neonwrightref05_Fewest.mono : ∀ a0 a1 k, LeO (neonwrightref05_Fewest.f k a0 a1) (neonwrightref05_Fewest.f (k + 1) a0 a1) := by
  intro a0 a1 k
  have ih0 := neonwrightref05_Fewest.mono_l k
  unfold neonwrightref05_Fewest.f
  repeat' first
      | (with_reducible exact ih0 _ _ _)
      | (with_reducible exact neonwrightref05_Few.mono _ _ _)
      | (with_reducible exact neonwrightref05_can.mono _ _ _ _)
      | (with_reducible exact LeO.refl _)
      | (with_reducible exact LeO.none _)
      | (with_reducible refine LeO.ite ?_ ?_)
      | (with_reducible refine LeO.bind ?_ (fun _ => ?_))
      | exact ih0 _ _ _
      | exact neonwrightref05_Few.mono _ _ _
      | exact neonwrightref05_can.mono _ _ _ _
      | exact LeO.none _
      | refine LeO.ite ?_ ?_
      | refine LeO.bind ?_ (fun _ => ?_)
set_option maxHeartbeats 8000000 in
set_option maxRecDepth 100000 in
theorem neonwrightref05_Fewest.calls (k : Nat) (a0 : Int) (a1 : Int) (r1 : Int) (r2 : Int) (w : World) (h : neonwrightref05_Fewest.f k a0 a1 = some (r1, r2)) :
    Calls Tryd.prog 30 #[.int .i64 a0, .int .i64 a1] w fun e w' => e = .returned (.tuple #[.int .i64 r1, .int .i64 r2]) ∧ Below w.heap.size w w' := by
  have HB := Aside0.mk (Below.refl w.heap.size w)
  have H : ((neonwrightref05_Few.f k a0 a1).bind fun bt289 => (if bt289.2 = true then (neonwrightref05_Fewest.l0 k a0 bt289.1 0) else (some (0, 2)))) = some (r1, r2) := h
  clear h
  replace H := Option.bind_eq_some_iff.mp H
  obtain ⟨⟨t289, t290⟩, A30, H⟩ := H
  replace H : (if t290 = true then (neonwrightref05_Fewest.l0 k a0 t289 0) else (some (0, 2))) = some (r1, r2) := H
  have A3 := Aside0.mk A30
  clear A30
  by_cases c4 : t290 = true
  · subst c4
    have H1 : (neonwrightref05_Fewest.l0 k a0 t289 0) = some (r1, r2) := by rw [if_pos rfl] at H; exact H
    clear H
    have H := H1
    clear H1
    have H' := Aside0.mk H
    clear H
    go_enter Tryd.func30, Tryd.ntmps30
    go_wp2_with (first | ((with_reducible refine gate_callee (f := 23) rfl ?_); refine goesL_ (some 12) rfl rfl Tryd.func23 (by kernel_rfl) rfl #[.int .i64 a0, .int .i64 a1] rfl (by (try simp only [List.map_toArray, List.map_cons, List.map_nil]); first | done | rfl | (simp only [List.length_drop, List.length_take]; rfl)) ?_; (with_reducible refine (neonwrightref05_Few.calls k a0 a1 t289 true _ A3.out).mono ?_); rintro e w5 ⟨v291, rfl, ho0, hb⟩; refine ⟨_, rfl, ?_⟩; have n0_ := Aside0.mk (Kd.R_lower ho0 (below_size (by repeat (first | (with_reducible first | exact HB.out | apply below_alloc | apply pw_below_drewN | apply below_drew1) | exact HB.out)))); have n1_ := Aside0.mk (below_step (by repeat (first | (with_reducible first | exact HB.out | apply below_alloc | apply pw_below_drewN | apply below_drew1) | exact HB.out)) hb); clear HB; have HO292 := n0_; have HB := n1_; clear n0_ n1_; (try clear hb); (try clear hb2); (try clear hk); (try clear hi); (try clear ho0)))
    go_loopg [8] k (fun kq v8 w' => ∃ (x8_1 : Int), v8 = .int .i64 x8_1 ∧ Aside0 (neonwrightref05_Fewest.l0 kq a0 t289 x8_1 = some (r1, r2)) ∧ Aside0 (kq ≤ k) ∧ Aside0 (Kd.R (Kd.int .i64) 3 w' w.heap.size (fun _ => True) v291 t289) ∧ Aside0 (Below w.heap.size w w'))
    case atStart => exact ⟨(0), (by first | rfl | (simp; done) | (simp [*]; done)), H', ⟨Nat.le_refl _⟩, ⟨by (with_reducible repeat (first | apply Kd.R_alloc | apply Kd.R_drewN | apply Kd.R_drew)); first | exact HO292.out | exact Kd.R_mono HO292.out (fun k_ h_ => ne_own_len h_)⟩, ⟨by repeat (first | (with_reducible first | exact HB.out | apply below_alloc | apply pw_below_drewN | apply below_drew1) | exact HB.out)⟩⟩
    case round =>
      clear H'
      try clear c2
      try clear p2
      try clear c3
      try clear c4
      obtain ⟨x8_1, rfl, HA, HK1, HO_6, HB⟩ := hrel
      cases gk with
      | zero => exact absurd HA.out (by simp [neonwrightref05_Fewest.l0])
      | succ k1 =>
        have H := HA.out
        clear HA
        simp only [neonwrightref05_Fewest.l0] at H
        replace H := Option.bind_eq_some_iff.mp H
        obtain ⟨t293, A60, H⟩ := H
        replace H : (if t293 = true then (some (x8_1, 0)) else (neonwrightref05_Fewest.l0 k1 a0 t289 (wrap64 (x8_1 + 1)))) = some (r1, r2) := H
        have A6 := Aside0.mk A60
        clear A60
        by_cases c7 : t293 = true
        · subst c7
          have H1 : (some (x8_1, 0)) = some (r1, r2) := by rw [if_pos rfl] at H; exact H
          clear H
          have H := H1
          clear H1
          simp only [Option.some.injEq, Prod.mk.injEq] at H
          obtain ⟨rfl, rfl⟩ := H
          obtain ⟨Ao8, co8, eo8⟩ := Kd.R_slice HO_6.out
          subst eo8
          go_wp2_with (first | ((with_reducible refine gate_callee (f := 58) rfl ?_); refine goesL_ (some 20) rfl rfl Tryd.func58 (by kernel_rfl) rfl #[.int .i64 a0, .slice Ao8 t289.length co8, .int .i64 x8_1] rfl (by (try simp only [List.map_toArray, List.map_cons, List.map_nil]); first | done | rfl | (simp only [List.length_drop, List.length_take]; rfl)) ?_; (with_reducible refine (neonwrightref05_can.calls k1 a0 _ _ t289 x8_1 true _ ?side1 ?side2 A6.out).mono ?_); (case side1 => repeat (first | exact (Kd.R_reads' HO_6.out).2.2 | (with_reducible refine Kd.C_alloc ?_ _) | (with_reducible refine Kd.C_drewN ?_ _) | (with_reducible refine Kd.C_drew ?_))); (case side2 => exact (Kd.R_reads' HO_6.out).2.1); rintro e w9 ⟨rfl, hb⟩; refine ⟨_, rfl, ?_⟩; have n0_ := Aside0.mk (Kd.R_below (by (with_reducible repeat (first | apply Kd.R_alloc | apply Kd.R_drewN | apply Kd.R_drew)); exact HO_6.out) hb); have n1_ := Aside0.mk (below_step (by repeat (first | (with_reducible first | exact HB.out | apply below_alloc | apply pw_below_drewN | apply below_drew1) | exact HB.out)) hb); clear HO_6; clear HB; have HO_6 := n0_; have HB := n1_; clear n0_ n1_; (try clear hb); (try clear hb2); (try clear hk); (try clear hi)))
          go_ret2
          exact ⟨by first | rfl | (simp [errW_none, errW_some] <;> rfl) | (simp [*, errW_none, errW_some] <;> rfl), by repeat (first | (with_reducible first | exact HB.out | apply below_alloc | apply pw_below_drewN | apply below_drew1) | exact HB.out)⟩
        · replace c7 := Bool.eq_false_iff.mpr c7
          subst c7
          have H1 : (neonwrightref05_Fewest.l0 k1 a0 t289 (wrap64 (x8_1 + 1))) = some (r1, r2) := by rw [if_neg (show ¬ (false = true) by decide)] at H; exact H
          clear H
          have H := H1
          clear H1
          have H' := Aside0.mk H
          clear H
          obtain ⟨Ao10, co10, eo10⟩ := Kd.R_slice HO_6.out
          subst eo10
          go_wp2_with (first | ((with_reducible refine gate_callee (f := 58) rfl ?_); refine goesL_ (some 20) rfl rfl Tryd.func58 (by kernel_rfl) rfl #[.int .i64 a0, .slice Ao10 t289.length co10, .int .i64 x8_1] rfl (by (try simp only [List.map_toArray, List.map_cons, List.map_nil]); first | done | rfl | (simp only [List.length_drop, List.length_take]; rfl)) ?_; (with_reducible refine (neonwrightref05_can.calls k1 a0 _ _ t289 x8_1 false _ ?side1 ?side2 A6.out).mono ?_); (case side1 => repeat (first | exact (Kd.R_reads' HO_6.out).2.2 | (with_reducible refine Kd.C_alloc ?_ _) | (with_reducible refine Kd.C_drewN ?_ _) | (with_reducible refine Kd.C_drew ?_))); (case side2 => exact (Kd.R_reads' HO_6.out).2.1); rintro e w11 ⟨rfl, hb⟩; refine ⟨_, rfl, ?_⟩; have n0_ := Aside0.mk (Kd.R_below (by (with_reducible repeat (first | apply Kd.R_alloc | apply Kd.R_drewN | apply Kd.R_drew)); exact HO_6.out) hb); have n1_ := Aside0.mk (below_step (by repeat (first | (with_reducible first | exact HB.out | apply below_alloc | apply pw_below_drewN | apply below_drew1) | exact HB.out)) hb); clear HO_6; clear HB; have HO_6 := n0_; have HB := n1_; clear n0_ n1_; (try clear hb); (try clear hb2); (try clear hk); (try clear hi)))
          go_roundg k1
          case measure => have := HK1.out; omega
          case rel => exact ⟨(wrap64 (x8_1 + 1)), (by first | rfl | (simp; done) | (simp [*]; done)), H', ⟨by have := HK1.out; omega⟩, ⟨by (with_reducible repeat (first | apply Kd.R_alloc | apply Kd.R_drewN | apply Kd.R_drew)); first | exact HO_6.out | exact Kd.R_mono HO_6.out (fun k_ h_ => ne_own_len h_)⟩, ⟨by repeat (first | (with_reducible first | exact HB.out | apply below_alloc | apply pw_below_drewN | apply below_drew1) | exact HB.out)⟩⟩
  · replace c4 := Bool.eq_false_iff.mpr c4
    subst c4
    have H1 : (some (0, 2)) = some (r1, r2) := by rw [if_neg (show ¬ (false = true) by decide)] at H; exact H
    clear H
    have H := H1
    clear H1
    simp only [Option.some.injEq, Prod.mk.injEq] at H
    obtain ⟨rfl, rfl⟩ := H
    go_enter Tryd.func30, Tryd.ntmps30
    go_wp2_with (first | ((with_reducible refine gate_callee (f := 23) rfl ?_); refine goesL_ (some 12) rfl rfl Tryd.func23 (by kernel_rfl) rfl #[.int .i64 a0, .int .i64 a1] rfl (by (try simp only [List.map_toArray, List.map_cons, List.map_nil]); first | done | rfl | (simp only [List.length_drop, List.length_take]; rfl)) ?_; (with_reducible refine (neonwrightref05_Few.calls k a0 a1 t289 false _ A3.out).mono ?_); rintro e w12 ⟨v291, rfl, ho0, hb⟩; refine ⟨_, rfl, ?_⟩; have n0_ := Aside0.mk (Kd.R_lower ho0 (below_size (by repeat (first | (with_reducible first | exact HB.out | apply below_alloc | apply pw_below_drewN | apply below_drew1) | exact HB.out)))); have n1_ := Aside0.mk (below_step (by repeat (first | (with_reducible first | exact HB.out | apply below_alloc | apply pw_below_drewN | apply below_drew1) | exact HB.out)) hb); clear HB; have HO292 := n0_; have HB := n1_; clear n0_ n1_; (try clear hb); (try clear hb2); (try clear hk); (try clear hi); (try clear ho0)))
    go_ret2
    exact ⟨by first | rfl | (simp [errW_none, errW_some] <;> rfl) | (simp [*, errW_none, errW_some] <;> rfl), by repeat (first | (with_reducible first | exact HB.out | apply below_alloc | apply pw_below_drewN | apply below_drew1) | exact HB.out)⟩

end Go.Proofs.YtglajokjiphafaaDoor.P

namespace Go.Proofs.YtglajokjiphafaaDoor.P
open Go.RowKit Go.Proofs.YtglajokjiphafaaDoorW.PrintWords Go.Proofs.YtglajokjiphafaaDoorW.PrintLast Go.Proofs.YtglajokjiphafaaDoorW.PrintMore
attribute [local go_sem] max2_int min2_int max_two min_two max_three min_three max_four min_four   -- for this text's walks alone
set_option linter.unusedVariables false
set_option linter.unusedSimpArgs false

/-! ### neonwrightref05_finds: function 59 -/
mutual
def neonwrightref05_finds.j0 : Nat → Int → List Int → Int → List Int → Int → Bool → Option (Int)
  | 0, _, _, _, _, _, _ => none
  | k + 1, x0, x1, x2, x3, x4, x40 => if x40 = true then (some (-1)) else (if 0 ≤ x4 then (if x4 < (x3.length : Int) then ((neonwrightref05_split.f k x1 (rd x3 x4)).bind fun bt297 => ((neonwrightref05_finds.f k x0 bt297.1 (wrap64 (x2 - 1)) x3 (wrap64 (x4 + 1))).bind fun t303 => (if t303 < 0 then (some (-1)) else ((neonwrightref05_finds.f k x0 bt297.2 (wrap64 (x2 - 1)) x3 t303).bind fun t304 => (some t304))))) else (none)) else (none))
def neonwrightref05_finds.f : Nat → Int → List Int → Int → List Int → Int → Option (Int)
  | 0, _, _, _, _, _ => none
  | k + 1, a0, l1, a2, l3, a4 => if (l1.length : Int) ≤ 1 then (some a4) else (if a2 = 0 then (neonwrightref05_finds.j0 k a0 l1 a2 l3 a4 true) else (if a4 ≥ (l3.length : Int) then (neonwrightref05_finds.j0 k a0 l1 a2 l3 a4 true) else (if 0 ≤ a4 then (if a4 < (l3.length : Int) then (if (rd l3 a4) < 1 then (neonwrightref05_finds.j0 k a0 l1 a2 l3 a4 true) else (if 0 ≤ a0 then (neonwrightref05_finds.j0 k a0 l1 a2 l3 a4 (decide ((rd l3 a4) ≥ (shl .i64 1 a0)))) else (none))) else (none)) else (none))))
end
theorem neonwrightref05_finds.mono_l : ∀ k, (∀ y0 y1 y2 y3 y4, LeO (neonwrightref05_finds.f k y0 y1 y2 y3 y4) (neonwrightref05_finds.f (k + 1) y0 y1 y2 y3 y4)) ∧ (∀ y0 y1 y2 y3 y4 y5, LeO (neonwrightref05_finds.j0 k y0 y1 y2 y3 y4 y5) (neonwrightref05_finds.j0 (k + 1) y0 y1 y2 y3 y4 y5))
  | 0 => ⟨fun _ _ _ _ _ r h => by simp [neonwrightref05_finds.f] at h, fun _ _ _ _ _ _ r h => by simp [neonwrightref05_finds.j0] at h⟩
  | k + 1 => by
    obtain ⟨ih0, ih1⟩ := neonwrightref05_finds.mono_l k
    refine ⟨?_, ?_⟩
    · intro y0 y1 y2 y3 y4
      unfold neonwrightref05_finds.f
      repeat' first
      | (with_reducible exact ih0 _ _ _ _ _)
      | (with_reducible exact ih1 _ _ _ _ _ _)
      | (with_reducible exact neonwrightref05_split.mono _ _ _)
      | (with_reducible exact LeO.refl _)
      | (with_reducible exact LeO.none _)
      | (with_reducible refine LeO.ite ?_ ?_)
      | (with_reducible refine LeO.bind ?_ (fun _ => ?_))
      | exact ih0 _ _ _ _ _
      | exact ih1 _ _ _ _ _ _
      | exact neonwrightref05_split.mono _ _ _
      | exact LeO.none _
      | refine LeO.ite ?_ ?_
      | refine LeO.bind ?_ (fun _ => ?_)
    · intro y0 y1 y2 y3 y4 y5
      unfold neonwrightref05_finds.j0
      repeat' first
      | (with_reducible exact ih0 _ _ _ _ _)
      | (with_reducible exact ih1 _ _ _ _ _ _)
      | (with_reducible exact neonwrightref05_split.mono _ _ _)
      | (with_reducible exact LeO.refl _)
      | (with_reducible exact LeO.none _)
      | (with_reducible refine LeO.ite ?_ ?_)
      | (with_reducible refine LeO.bind ?_ (fun _ => ?_))
      | exact ih0 _ _ _ _ _
      | exact ih1 _ _ _ _ _ _
      | exact neonwrightref05_split.mono _ _ _
      | exact LeO.none _
      | refine LeO.ite ?_ ?_
      | refine LeO.bind ?_ (fun _ => ?_)
theorem neonwrightref05_finds.mono : ∀ a0 a1 a2 a3 a4 k, LeO (neonwrightref05_finds.f k a0 a1 a2 a3 a4) (neonwrightref05_finds.f (k + 1) a0 a1 a2 a3 a4) := by
  intro a0 a1 a2 a3 a4 k
  obtain ⟨ih0, ih1⟩ := neonwrightref05_finds.mono_l k
  exact ih0 a0 a1 a2 a3 a4
set_option maxHeartbeats 8000000 in
set_option maxRecDepth 100000 in
theorem neonwrightref05_finds.calls (k : Nat) : ∀ (a0 : Int) (A1 : Option Addr) (c1 : Nat) (l1 : List Int) (a2 : Int) (A3 : Option Addr) (c3 : Nat) (l3 : List Int) (a4 : Int) (r : Int) (w : World) (hr1 : Kd.C (Kd.int .i64) w A1 l1.length l1) (hc1 : l1.length ≤ c1) (hr3 : Kd.C (Kd.int .i64) w A3 l3.length l3) (hc3 : l3.length ≤ c3) (h : neonwrightref05_finds.f k a0 l1 a2 l3 a4 = some r),
    Calls Tryd.prog 59 #[.int .i64 a0, .slice A1 l1.length c1, .int .i64 a2, .slice A3 l3.length c3, .int .i64 a4] w fun e w' => e = .returned (.int .i64 r) ∧ Below w.heap.size w w' := by
  induction k using Nat.strongRecOn with
  | _ k ih =>
  intro a0 A1 c1 l1 a2 A3 c3 l3 a4 r w hr1 hc1 hr3 hc3 h
  cases k with
  | zero => exact absurd h (by simp [neonwrightref05_finds.f])
  | succ k =>
  simp only [neonwrightref05_finds.f] at h
  have HR1 := Aside0.mk hr1
  have HC1 := Aside0.mk hc1
  clear hr1 hc1
  have HR3 := Aside0.mk hr3
  have HC3 := Aside0.mk hc3
  clear hr3 hc3
  have HB := Aside0.mk (Below.refl w.heap.size w)
  have H : (if (l1.length : Int) ≤ 1 then (some a4) else (if a2 = 0 then (neonwrightref05_finds.j0 k a0 l1 a2 l3 a4 true) else (if a4 ≥ (l3.length : Int) then (neonwrightref05_finds.j0 k a0 l1 a2 l3 a4 true) else (if 0 ≤ a4 then (if a4 < (l3.length : Int) then (if (rd l3 a4) < 1 then (neonwrightref05_finds.j0 k a0 l1 a2 l3 a4 true) else (if 0 ≤ a0 then (neonwrightref05_finds.j0 k a0 l1 a2 l3 a4 (decide ((rd l3 a4) ≥ (shl .i64 1 a0)))) else (none))) else (none)) else (none))))) = some r := h
  clear h
  by_cases c6 : (l1.length : Int) ≤ 1
  · rw [if_pos c6] at H
    have c6b0 : decide ((l1.length : Int) ≤ 1) = true := decide_eq_true c6
    have c6b1 : decide (l1.length ≤ 1) = true := decide_eq_true (by omega)
    clear c6
    obtain rfl := Option.some.inj H
    go_enter Tryd.func59, Tryd.ntmps59
    go_wp2
    repeat (go_quiet (fail); try go_wp2)
    go_ret
    exact ⟨by first | rfl | (simp [errW_none, errW_some] <;> rfl) | (simp [*, errW_none, errW_some] <;> rfl), by repeat (first | (with_reducible first | exact HB.out | apply below_alloc | apply pw_below_drewN | apply below_drew1) | exact HB.out)⟩
  · rw [if_neg c6] at H
    have c6b0 : decide ((l1.length : Int) ≤ 1) = false := decide_eq_false c6
    have c6b1 : decide (l1.length ≤ 1) = false := decide_eq_false (by omega)
    clear c6
    have HC7 := Aside0.mk H
    clear H
    go_enter Tryd.func59, Tryd.ntmps59
    go_upto_region 3 with (fail)
    repeat (go_quiet (fail); go_upto_region 3 with (fail))
    go_cut [40] (fun v40 wc => ∃ (kq : Nat) (x40_6 : Bool), v40 = .bool x40_6 ∧ Aside0 (neonwrightref05_finds.j0 kq a0 l1 a2 l3 a4 x40_6 = some r) ∧ Aside0 (kq ≤ k) ∧ Aside0 (Below w.heap.size w wc))
    case first =>
      have H := HC7.out
      clear HC7
      by_cases c8 : a2 = 0
      · rw [if_pos c8] at H
        have c8b0 : (a2 == 0) = true := beq_iff_eq.mpr c8
        have c8b1 : (a2 != 0) = false := bne_eq_false_iff_eq.mpr c8
        clear c8
        (first | rw [c8b0] | (simp only [i64_w, i32_w]; rw [c8b0]) | skip)
        have H' := Aside0.mk H
        clear H
        go_wp2
        repeat (go_quiet (fail); try go_wp2)
        go_meet
        case rel => exact ⟨_, (true), (by first | rfl | (simp; done) | (simp [*]; done)), H', ⟨by first | omega | exact Nat.le_refl _⟩, ⟨by repeat (first | (with_reducible first | exact HB.out | apply below_alloc | apply pw_below_drewN | apply below_drew1) | exact HB.out)⟩⟩
      · rw [if_neg c8] at H
        have c8b0 : (a2 == 0) = false := beq_eq_false_iff_ne.mpr c8
        have c8b1 : (a2 != 0) = true := bne_iff_ne.mpr c8
        (first | rw [c8b0] | (simp only [i64_w, i32_w]; rw [c8b0]) | skip)
        by_cases c9 : a4 ≥ (l3.length : Int)
        · rw [if_pos c9] at H
          have c9b0 : decide ((l3.length : Int) ≤ a4) = true := decide_eq_true c9
          clear c9
          have H' := Aside0.mk H
          clear H
          go_wp2
          repeat (go_quiet (fail); try go_wp2)
          go_meet
          case rel => exact ⟨_, (true), (by first | rfl | (simp; done) | (simp [*]; done)), H', ⟨by first | omega | exact Nat.le_refl _⟩, ⟨by repeat (first | (with_reducible first | exact HB.out | apply below_alloc | apply pw_below_drewN | apply below_drew1) | exact HB.out)⟩⟩
        · rw [if_neg c9] at H
          have c9b0 : decide ((l3.length : Int) ≤ a4) = false := decide_eq_false c9
          clear c9
          by_cases c10 : 0 ≤ a4
          · rw [if_pos c10] at H
            have c10b0 : decide (0 ≤ a4) = true := decide_eq_true c10
            clear c10
            by_cases c11 : a4 < (l3.length : Int)
            · rw [if_pos c11] at H
              have c11b0 : decide (a4 < (l3.length : Int)) = true := decide_eq_true c11
              clear c11
              by_cases c12 : (rd l3 a4) < 1
              · rw [if_pos c12] at H
                have c12b0 : decide ((rd l3 a4) < 1) = true := decide_eq_true c12
                clear c12
                have H' := Aside0.mk H
                clear H
                have p294 : 0 ≤ (a4 : Int) := of_decide_eq_true (by first | (with_reducible assumption) | assumption)
                have q294 : a4 < (l3.length : Int) := of_decide_eq_true (by first | (with_reducible assumption) | assumption)
                obtain ⟨ad294, e294, hx294_0⟩ := Kd.at_int HR3.out a4 p294 q294
                cases e294
                replace hx294_0 := (HB.out.cell (World.block_lt_of_cell? w _ hx294_0)).trans hx294_0
                replace p294 := eq_true p294
                replace q294 := eq_true q294
                go_wp2
                repeat (go_quiet (fail); try go_wp2)
                go_meet
                case rel => exact ⟨_, (true), (by first | rfl | (simp; done) | (simp [*]; done)), H', ⟨by first | omega | exact Nat.le_refl _⟩, ⟨by repeat (first | (with_reducible first | exact HB.out | apply below_alloc | apply pw_below_drewN | apply below_drew1) | exact HB.out)⟩⟩
              · rw [if_neg c12] at H
                have c12b0 : decide ((rd l3 a4) < 1) = false := decide_eq_false c12
                clear c12
                by_cases c13 : 0 ≤ a0
                · rw [if_pos c13] at H
                  have c13b0 := eq_true c13
                  have c13b1 : decide (0 ≤ a0) = true := decide_eq_true c13
                  clear c13
                  obtain ⟨ji14, hji14⟩ : ∃ j_ : Int, (shl .i64 1 a0) = j_ := ⟨_, rfl⟩
                  replace H : (neonwrightref05_finds.j0 k a0 l1 a2 l3 a4 (decide ((rd l3 a4) ≥ (ji14)))) = some r := by first | (rw [hji14] at H; exact H) | (simp only [hji14] at H ⊢; exact H)
                  have hji14_ : (IntKind.i64.wrap (1 * 2 ^ min a0.toNat 64)) = ji14 := hji14
                  have hji14z : a0 ≤ 64 → (IntKind.i64.wrap (1 * 2 ^ a0.toNat)) = ji14 := shl_small hji14
                  have hji14u : (IntKind.i64.wrap (2 ^ min a0.toNat 64)) = ji14 := by have h_ := hji14_; rw [Int.one_mul] at h_; exact h_
                  have hji14v : a0 ≤ 64 → (IntKind.i64.wrap (2 ^ a0.toNat)) = ji14 := fun hle_ => by have h_ := hji14z hle_; rw [Int.one_mul] at h_; exact h_
                  have hji14y : (wrap64 (1 * 2 ^ min a0.toNat 64)) = ji14 := (i64_w _).symm.trans hji14_
                  have hji14x : a0 ≤ 64 → (wrap64 (1 * 2 ^ a0.toNat)) = ji14 := fun h_ => (i64_w _).symm.trans (hji14z h_)
                  have H' := Aside0.mk H
                  clear H
                  have p294 : 0 ≤ (a4 : Int) := of_decide_eq_true (by first | (with_reducible assumption) | assumption)
                  have q294 : a4 < (l3.length : Int) := of_decide_eq_true (by first | (with_reducible assumption) | assumption)
                  obtain ⟨ad294, e294, hx294_0⟩ := Kd.at_int HR3.out a4 p294 q294
                  cases e294
                  replace hx294_0 := (HB.out.cell (World.block_lt_of_cell? w _ hx294_0)).trans hx294_0
                  replace p294 := eq_true p294
                  replace q294 := eq_true q294
                  have p295 : 0 ≤ (a4 : Int) := of_decide_eq_true (by first | (with_reducible assumption) | assumption)
                  have q295 : a4 < (l3.length : Int) := of_decide_eq_true (by first | (with_reducible assumption) | assumption)
                  obtain ⟨ad295, e295, hx295_0⟩ := Kd.at_int HR3.out a4 p295 q295
                  obtain rfl : ad294 = ad295 := (by injection e295)
                  replace hx295_0 := (HB.out.cell (World.block_lt_of_cell? w _ hx295_0)).trans hx295_0
                  replace p295 := eq_true p295
                  replace q295 := eq_true q295
                  go_wp2
                  repeat (go_quiet (fail); try go_wp2)
                  go_meet
                  case rel => exact ⟨_, (decide ((rd l3 a4) ≥ (ji14))), (by first | rfl | (simp; done) | (simp only [← hji14] <;> (first | rfl | simp)) | (simp [*]; done)), H', ⟨by first | omega | exact Nat.le_refl _⟩, ⟨by repeat (first | (with_reducible first | exact HB.out | apply below_alloc | apply pw_below_drewN | apply below_drew1) | exact HB.out)⟩⟩
                · rw [if_neg c13] at H
                  exact absurd H (by simp)
            · rw [if_neg c11] at H
              exact absurd H (by simp)
          · rw [if_neg c10] at H
            exact absurd H (by simp)
    case rest =>
      clear HC7
      try clear c1
      try clear p2
      try clear q2
      try clear hx2
      try clear c3
      try clear c5
      try clear c6
      try clear c6b0
      try clear c6b1
      try clear p6
      try clear c8
      try clear c8b0
      try clear c8b1
      try clear c9
      try clear c9b0
      try clear c10
      try clear c10b0
      try clear c11
      try clear c11b0
      try clear c12
      try clear c12b0
      try clear c13
      try clear c13b0
      try clear c13b1
      try clear hx294_0
      try clear hx295_0
      try clear p294
      try clear p295
      try clear q294
      try clear q295
      obtain ⟨kq, x40_6, rfl, HA, HJ6, HB⟩ := hcut
      cases kq with
      | zero => exact absurd HA.out (by simp [neonwrightref05_finds.j0])
      | succ kj6 =>
        have H := HA.out
        clear HA
        simp only [neonwrightref05_finds.j0] at H
        by_cases c15 : x40_6 = true
        · subst c15
          have H1 : (some (-1)) = some r := by rw [if_pos rfl] at H; exact H
          clear H
          have H := H1
          clear H1
          obtain rfl := Option.some.inj H
          go_wp2
          repeat (go_quiet (fail); try go_wp2)
          go_ret
          exact ⟨by first | rfl | (simp [errW_none, errW_some] <;> rfl) | (simp [*, errW_none, errW_some] <;> rfl), by repeat (first | (with_reducible first | exact HB.out | apply below_alloc | apply pw_below_drewN | apply below_drew1) | exact HB.out)⟩
        · replace c15 := Bool.eq_false_iff.mpr c15
          subst c15
          have H1 : (if 0 ≤ a4 then (if a4 < (l3.length : Int) then ((neonwrightref05_split.f kj6 l1 (rd l3 a4)).bind fun bt297 => ((neonwrightref05_finds.f kj6 a0 bt297.1 (wrap64 (a2 - 1)) l3 (wrap64 (a4 + 1))).bind fun t303 => (if t303 < 0 then (some (-1)) else ((neonwrightref05_finds.f kj6 a0 bt297.2 (wrap64 (a2 - 1)) l3 t303).bind fun t304 => (some t304))))) else (none)) else (none)) = some r := by rw [if_neg (show ¬ (false = true) by decide)] at H; exact H
          clear H
          have H := H1
          clear H1
          by_cases c16 : 0 ≤ a4
          · rw [if_pos c16] at H
            have c16b0 : decide (0 ≤ a4) = true := decide_eq_true c16
            clear c16
            by_cases c17 : a4 < (l3.length : Int)
            · rw [if_pos c17] at H
              have c17b0 : decide (a4 < (l3.length : Int)) = true := decide_eq_true c17
              clear c17
              replace H := Option.bind_eq_some_iff.mp H
              obtain ⟨⟨t297, t298⟩, A180, H⟩ := H
              replace H : ((neonwrightref05_finds.f kj6 a0 t297 (wrap64 (a2 - 1)) l3 (wrap64 (a4 + 1))).bind fun t303 => (if t303 < 0 then (some (-1)) else ((neonwrightref05_finds.f kj6 a0 t298 (wrap64 (a2 - 1)) l3 t303).bind fun t304 => (some t304)))) = some r := H
              have A18 := Aside0.mk A180
              clear A180
              replace H := Option.bind_eq_some_iff.mp H
              obtain ⟨t303, A190, H⟩ := H
              replace H : (if t303 < 0 then (some (-1)) else ((neonwrightref05_finds.f kj6 a0 t298 (wrap64 (a2 - 1)) l3 t303).bind fun t304 => (some t304))) = some r := H
              have A19 := Aside0.mk A190
              clear A190
              by_cases c20 : t303 < 0
              · rw [if_pos c20] at H
                have c20b0 : decide (t303 < 0) = true := decide_eq_true c20
                clear c20
                obtain rfl := Option.some.inj H
                have p296 : 0 ≤ (a4 : Int) := of_decide_eq_true (by first | (with_reducible assumption) | assumption)
                have q296 : a4 < (l3.length : Int) := of_decide_eq_true (by first | (with_reducible assumption) | assumption)
                obtain ⟨ad296, e296, hx296_0⟩ := Kd.at_int HR3.out a4 p296 q296
                cases e296
                replace hx296_0 := (HB.out.cell (World.block_lt_of_cell? w _ hx296_0)).trans hx296_0
                replace p296 := eq_true p296
                replace q296 := eq_true q296
                go_wp2_with (first | (go_at_call 86; (with_reducible refine (neonwrightref05_split.calls kj6 _ _ l1 (rd l3 a4) t297 t298 _ ?side1 ?side2 A18.out).mono ?_); (case side1 => repeat (first | exact (Kd.C_below HR1.out HB.out) | (with_reducible refine Kd.C_alloc ?_ _) | (with_reducible refine Kd.C_drewN ?_ _) | (with_reducible refine Kd.C_drew ?_))); (case side2 => exact HC1.out); rintro e w21 ⟨v299, v301, rfl, ho0, ho1, hb⟩; have n0_ := Aside0.mk (Kd.R_lower ho0 (below_size (by repeat (first | (with_reducible first | exact HB.out | apply below_alloc | apply pw_below_drewN | apply below_drew1) | exact HB.out)))); have n1_ := Aside0.mk (Kd.R_lower ho1 (below_size (by repeat (first | (with_reducible first | exact HB.out | apply below_alloc | apply pw_below_drewN | apply below_drew1) | exact HB.out)))); have n2_ := Aside0.mk (below_step (by repeat (first | (with_reducible first | exact HB.out | apply below_alloc | apply pw_below_drewN | apply below_drew1) | exact HB.out)) hb); clear HB; have HO300 := n0_; have HO302 := n1_; have HB := n2_; clear n0_ n1_ n2_; (try clear hb); (try clear hb2); (try clear hk); (try clear hi); (try clear ho0); (try clear ho1); obtain ⟨Ao22, co22, eo22⟩ := Kd.R_slice HO300.out; subst eo22) | (go_at_call 59; (with_reducible refine (ih kj6 (by have := HJ6.out; omega) a0 _ _ t297 (wrap64 (a2 - 1)) _ _ l3 (wrap64 (a4 + 1)) t303 _ ?side1 ?side2 ?side3 ?side4 A19.out).mono ?_); (case side1 => repeat (first | exact (Kd.R_reads' HO300.out).2.2 | (with_reducible refine Kd.C_alloc ?_ _) | (with_reducible refine Kd.C_drewN ?_ _) | (with_reducible refine Kd.C_drew ?_))); (case side2 => exact (Kd.R_reads' HO300.out).2.1); (case side3 => repeat (first | exact (Kd.C_below HR3.out HB.out) | (with_reducible refine Kd.C_alloc ?_ _) | (with_reducible refine Kd.C_drewN ?_ _) | (with_reducible refine Kd.C_drew ?_))); (case side4 => exact HC3.out); rintro e w23 ⟨rfl, hb⟩; have n0_ := Aside0.mk (Kd.R_below (by (with_reducible repeat (first | apply Kd.R_alloc | apply Kd.R_drewN | apply Kd.R_drew)); exact HO300.out) hb); have n1_ := Aside0.mk (Kd.R_below (by (with_reducible repeat (first | apply Kd.R_alloc | apply Kd.R_drewN | apply Kd.R_drew)); exact HO302.out) hb); have n2_ := Aside0.mk (below_step (by repeat (first | (with_reducible first | exact HB.out | apply below_alloc | apply pw_below_drewN | apply below_drew1) | exact HB.out)) hb); clear HO300; clear HO302; clear HB; have HO300 := n0_; have HO302 := n1_; have HB := n2_; clear n0_ n1_ n2_; (try clear hb); (try clear hb2); (try clear hk); (try clear hi)))
                repeat (go_quiet (first | (go_at_call 86; (with_reducible refine (neonwrightref05_split.calls kj6 _ _ l1 (rd l3 a4) t297 t298 _ ?side1 ?side2 A18.out).mono ?_); (case side1 => repeat (first | exact (Kd.C_below HR1.out HB.out) | (with_reducible refine Kd.C_alloc ?_ _) | (with_reducible refine Kd.C_drewN ?_ _) | (with_reducible refine Kd.C_drew ?_))); (case side2 => exact HC1.out); rintro e w21 ⟨v299, v301, rfl, ho0, ho1, hb⟩; have n0_ := Aside0.mk (Kd.R_lower ho0 (below_size (by repeat (first | (with_reducible first | exact HB.out | apply below_alloc | apply pw_below_drewN | apply below_drew1) | exact HB.out)))); have n1_ := Aside0.mk (Kd.R_lower ho1 (below_size (by repeat (first | (with_reducible first | exact HB.out | apply below_alloc | apply pw_below_drewN | apply below_drew1) | exact HB.out)))); have n2_ := Aside0.mk (below_step (by repeat (first | (with_reducible first | exact HB.out | apply below_alloc | apply pw_below_drewN | apply below_drew1) | exact HB.out)) hb); clear HB; have HO300 := n0_; have HO302 := n1_; have HB := n2_; clear n0_ n1_ n2_; (try clear hb); (try clear hb2); (try clear hk); (try clear hi); (try clear ho0); (try clear ho1); obtain ⟨Ao22, co22, eo22⟩ := Kd.R_slice HO300.out; subst eo22) | (go_at_call 59; (with_reducible refine (ih kj6 (by have := HJ6.out; omega) a0 _ _ t297 (wrap64 (a2 - 1)) _ _ l3 (wrap64 (a4 + 1)) t303 _ ?side1 ?side2 ?side3 ?side4 A19.out).mono ?_); (case side1 => repeat (first | exact (Kd.R_reads' HO300.out).2.2 | (with_reducible refine Kd.C_alloc ?_ _) | (with_reducible refine Kd.C_drewN ?_ _) | (with_reducible refine Kd.C_drew ?_))); (case side2 => exact (Kd.R_reads' HO300.out).2.1); (case side3 => repeat (first | exact (Kd.C_below HR3.out HB.out) | (with_reducible refine Kd.C_alloc ?_ _) | (with_reducible refine Kd.C_drewN ?_ _) | (with_reducible refine Kd.C_drew ?_))); (case side4 => exact HC3.out); rintro e w23 ⟨rfl, hb⟩; have n0_ := Aside0.mk (Kd.R_below (by (with_reducible repeat (first | apply Kd.R_alloc | apply Kd.R_drewN | apply Kd.R_drew)); exact HO300.out) hb); have n1_ := Aside0.mk (Kd.R_below (by (with_reducible repeat (first | apply Kd.R_alloc | apply Kd.R_drewN | apply Kd.R_drew)); exact HO302.out) hb); have n2_ := Aside0.mk (below_step (by repeat (first | (with_reducible first | exact HB.out | apply below_alloc | apply pw_below_drewN | apply below_drew1) | exact HB.out)) hb); clear HO300; clear HO302; clear HB; have HO300 := n0_; have HO302 := n1_; have HB := n2_; clear n0_ n1_ n2_; (try clear hb); (try clear hb2); (try clear hk); (try clear hi))); try go_wp2_with (first | (go_at_call 86; (with_reducible refine (neonwrightref05_split.calls kj6 _ _ l1 (rd l3 a4) t297 t298 _ ?side1 ?side2 A18.out).mono ?_); (case side1 => repeat (first | exact (Kd.C_below HR1.out HB.out) | (with_reducible refine Kd.C_alloc ?_ _) | (with_reducible refine Kd.C_drewN ?_ _) | (with_reducible refine Kd.C_drew ?_))); (case side2 => exact HC1.out); rintro e w21 ⟨v299, v301, rfl, ho0, ho1, hb⟩; have n0_ := Aside0.mk (Kd.R_lower ho0 (below_size (by repeat (first | (with_reducible first | exact HB.out | apply below_alloc | apply pw_below_drewN | apply below_drew1) | exact HB.out)))); have n1_ := Aside0.mk (Kd.R_lower ho1 (below_size (by repeat (first | (with_reducible first | exact HB.out | apply below_alloc | apply pw_below_drewN | apply below_drew1) | exact HB.out)))); have n2_ := Aside0.mk (below_step (by repeat (first | (with_reducible first | exact HB.out | apply below_alloc | apply pw_below_drewN | apply below_drew1) | exact HB.out)) hb); clear HB; have HO300 := n0_; have HO302 := n1_; have HB := n2_; clear n0_ n1_ n2_; (try clear hb); (try clear hb2); (try clear hk); (try clear hi); (try clear ho0); (try clear ho1); obtain ⟨Ao22, co22, eo22⟩ := Kd.R_slice HO300.out; subst eo22) | (go_at_call 59; (with_reducible refine (ih kj6 (by have := HJ6.out; omega) a0 _ _ t297 (wrap64 (a2 - 1)) _ _ l3 (wrap64 (a4 + 1)) t303 _ ?side1 ?side2 ?side3 ?side4 A19.out).mono ?_); (case side1 => repeat (first | exact (Kd.R_reads' HO300.out).2.2 | (with_reducible refine Kd.C_alloc ?_ _) | (with_reducible refine Kd.C_drewN ?_ _) | (with_reducible refine Kd.C_drew ?_))); (case side2 => exact (Kd.R_reads' HO300.out).2.1); (case side3 => repeat (first | exact (Kd.C_below HR3.out HB.out) | (with_reducible refine Kd.C_alloc ?_ _) | (with_reducible refine Kd.C_drewN ?_ _) | (with_reducible refine Kd.C_drew ?_))); (case side4 => exact HC3.out); rintro e w23 ⟨rfl, hb⟩; have n0_ := Aside0.mk (Kd.R_below (by (with_reducible repeat (first | apply Kd.R_alloc | apply Kd.R_drewN | apply Kd.R_drew)); exact HO300.out) hb); have n1_ := Aside0.mk (Kd.R_below (by (with_reducible repeat (first | apply Kd.R_alloc | apply Kd.R_drewN | apply Kd.R_drew)); exact HO302.out) hb); have n2_ := Aside0.mk (below_step (by repeat (first | (with_reducible first | exact HB.out | apply below_alloc | apply pw_below_drewN | apply below_drew1) | exact HB.out)) hb); clear HO300; clear HO302; clear HB; have HO300 := n0_; have HO302 := n1_; have HB := n2_; clear n0_ n1_ n2_; (try clear hb); (try clear hb2); (try clear hk); (try clear hi))))
                go_ret
                exact ⟨by first | rfl | (simp [errW_none, errW_some] <;> rfl) | (simp [*, errW_none, errW_some] <;> rfl), by repeat (first | (with_reducible first | exact HB.out | apply below_alloc | apply pw_below_drewN | apply below_drew1) | exact HB.out)⟩
              · rw [if_neg c20] at H
                have c20b0 : decide (t303 < 0) = false := decide_eq_false c20
                clear c20
                replace H := Option.bind_eq_some_iff.mp H
                obtain ⟨t304, A240, H⟩ := H
                replace H : (some t304) = some r := H
                have A24 := Aside0.mk A240
                clear A240
                obtain rfl := Option.some.inj H
                have p296 : 0 ≤ (a4 : Int) := of_decide_eq_true (by first | (with_reducible assumption) | assumption)
                have q296 : a4 < (l3.length : Int) := of_decide_eq_true (by first | (with_reducible assumption) | assumption)
                obtain ⟨ad296, e296, hx296_0⟩ := Kd.at_int HR3.out a4 p296 q296
                cases e296
                replace hx296_0 := (HB.out.cell (World.block_lt_of_cell? w _ hx296_0)).trans hx296_0
                replace p296 := eq_true p296
                replace q296 := eq_true q296
                go_wp2_with (first | (go_at_call 86; (with_reducible refine (neonwrightref05_split.calls kj6 _ _ l1 (rd l3 a4) t297 t298 _ ?side1 ?side2 A18.out).mono ?_); (case side1 => repeat (first | exact (Kd.C_below HR1.out HB.out) | (with_reducible refine Kd.C_alloc ?_ _) | (with_reducible refine Kd.C_drewN ?_ _) | (with_reducible refine Kd.C_drew ?_))); (case side2 => exact HC1.out); rintro e w25 ⟨v299, v301, rfl, ho0, ho1, hb⟩; have n0_ := Aside0.mk (Kd.R_lower ho0 (below_size (by repeat (first | (with_reducible first | exact HB.out | apply below_alloc | apply pw_below_drewN | apply below_drew1) | exact HB.out)))); have n1_ := Aside0.mk (Kd.R_lower ho1 (below_size (by repeat (first | (with_reducible first | exact HB.out | apply below_alloc | apply pw_below_drewN | apply below_drew1) | exact HB.out)))); have n2_ := Aside0.mk (below_step (by repeat (first | (with_reducible first | exact HB.out | apply below_alloc | apply pw_below_drewN | apply below_drew1) | exact HB.out)) hb); clear HB; have HO300 := n0_; have HO302 := n1_; have HB := n2_; clear n0_ n1_ n2_; (try clear hb); (try clear hb2); (try clear hk); (try clear hi); (try clear ho0); (try clear ho1); obtain ⟨Ao26, co26, eo26⟩ := Kd.R_slice HO300.out; subst eo26) | (go_at_call 59; (with_reducible refine (ih kj6 (by have := HJ6.out; omega) a0 _ _ t297 (wrap64 (a2 - 1)) _ _ l3 (wrap64 (a4 + 1)) t303 _ ?side1 ?side2 ?side3 ?side4 A19.out).mono ?_); (case side1 => repeat (first | exact (Kd.R_reads' HO300.out).2.2 | (with_reducible refine Kd.C_alloc ?_ _) | (with_reducible refine Kd.C_drewN ?_ _) | (with_reducible refine Kd.C_drew ?_))); (case side2 => exact (Kd.R_reads' HO300.out).2.1); (case side3 => repeat (first | exact (Kd.C_below HR3.out HB.out) | (with_reducible refine Kd.C_alloc ?_ _) | (with_reducible refine Kd.C_drewN ?_ _) | (with_reducible refine Kd.C_drew ?_))); (case side4 => exact HC3.out); rintro e w27 ⟨rfl, hb⟩; have n0_ := Aside0.mk (Kd.R_below (by (with_reducible repeat (first | apply Kd.R_alloc | apply Kd.R_drewN | apply Kd.R_drew)); exact HO300.out) hb); have n1_ := Aside0.mk (Kd.R_below (by (with_reducible repeat (first | apply Kd.R_alloc | apply Kd.R_drewN | apply Kd.R_drew)); exact HO302.out) hb); have n2_ := Aside0.mk (below_step (by repeat (first | (with_reducible first | exact HB.out | apply below_alloc | apply pw_below_drewN | apply below_drew1) | exact HB.out)) hb); clear HO300; clear HO302; clear HB; have HO300 := n0_; have HO302 := n1_; have HB := n2_; clear n0_ n1_ n2_; (try clear hb); (try clear hb2); (try clear hk); (try clear hi); obtain ⟨Ao28, co28, eo28⟩ := Kd.R_slice HO302.out; subst eo28) | (go_at_call 59; (with_reducible refine (ih kj6 (by have := HJ6.out; omega) a0 _ _ t298 (wrap64 (a2 - 1)) _ _ l3 t303 t304 _ ?side1 ?side2 ?side3 ?side4 A24.out).mono ?_); (case side1 => repeat (first | exact (Kd.R_reads' HO302.out).2.2 | (with_reducible refine Kd.C_alloc ?_ _) | (with_reducible refine Kd.C_drewN ?_ _) | (with_reducible refine Kd.C_drew ?_))); (case side2 => exact (Kd.R_reads' HO302.out).2.1); (case side3 => repeat (first | exact (Kd.C_below HR3.out HB.out) | (with_reducible refine Kd.C_alloc ?_ _) | (with_reducible refine Kd.C_drewN ?_ _) | (with_reducible refine Kd.C_drew ?_))); (case side4 => exact HC3.out); rintro e w29 ⟨rfl, hb⟩; have n0_ := Aside0.mk (Kd.R_below (by (with_reducible repeat (first | apply Kd.R_alloc | apply Kd.R_drewN | apply Kd.R_drew)); exact HO300.out) hb); have n1_ := Aside0.mk (Kd.R_below (by (with_reducible repeat (first | apply Kd.R_alloc | apply Kd.R_drewN | apply Kd.R_drew)); exact HO302.out) hb); have n2_ := Aside0.mk (below_step (by repeat (first | (with_reducible first | exact HB.out | apply below_alloc | apply pw_below_drewN | apply below_drew1) | exact HB.out)) hb); clear HO300; clear HO302; clear HB; have HO300 := n0_; have HO302 := n1_; have HB := n2_; clear n0_ n1_ n2_; (try clear hb); (try clear hb2); (try clear hk); (try clear hi)))
                repeat (go_quiet (first | (go_at_call 86; (with_reducible refine (neonwrightref05_split.calls kj6 _ _ l1 (rd l3 a4) t297 t298 _ ?side1 ?side2 A18.out).mono ?_); (case side1 => repeat (first | exact (Kd.C_below HR1.out HB.out) | (with_reducible refine Kd.C_alloc ?_ _) | (with_reducible refine Kd.C_drewN ?_ _) | (with_reducible refine Kd.C_drew ?_))); (case side2 => exact HC1.out); rintro e w25 ⟨v299, v301, rfl, ho0, ho1, hb⟩; have n0_ := Aside0.mk (Kd.R_lower ho0 (below_size (by repeat (first | (with_reducible first | exact HB.out | apply below_alloc | apply pw_below_drewN | apply below_drew1) | exact HB.out)))); have n1_ := Aside0.mk (Kd.R_lower ho1 (below_size (by repeat (first | (with_reducible first | exact HB.out | apply below_alloc | apply pw_below_drewN | apply below_drew1) | exact HB.out)))); have n2_ := Aside0.mk (below_step (by repeat (first | (with_reducible first | exact HB.out | apply below_alloc | apply pw_below_drewN | apply below_drew1) | exact HB.out)) hb); clear HB; have HO300 := n0_; have HO302 := n1_; have HB := n2_; clear n0_ n1_ n2_; (try clear hb); (try clear hb2); (try clear hk); (try clear hi); (try clear ho0); (try clear ho1); obtain ⟨Ao26, co26, eo26⟩ := Kd.R_slice HO300.out; subst eo26) | (go_at_call 59; (with_reducible refine (ih kj6 (by have := HJ6.out; omega) a0 _ _ t297 (wrap64 (a2 - 1)) _ _ l3 (wrap64 (a4 + 1)) t303 _ ?side1 ?side2 ?side3 ?side4 A19.out).mono ?_); (case side1 => repeat (first | exact (Kd.R_reads' HO300.out).2.2 | (with_reducible refine Kd.C_alloc ?_ _) | (with_reducible refine Kd.C_drewN ?_ _) | (with_reducible refine Kd.C_drew ?_))); (case side2 => exact (Kd.R_reads' HO300.out).2.1); (case side3 => repeat (first | exact (Kd.C_below HR3.out HB.out) | (with_reducible refine Kd.C_alloc ?_ _) | (with_reducible refine Kd.C_drewN ?_ _) | (with_reducible refine Kd.C_drew ?_))); (case side4 => exact HC3.out); rintro e w27 ⟨rfl, hb⟩; have n0_ := Aside0.mk (Kd.R_below (by (with_reducible repeat (first | apply Kd.R_alloc | apply Kd.R_drewN | apply Kd.R_drew)); exact HO300.out) hb); have n1_ := Aside0.mk (Kd.R_below (by (with_reducible repeat (first | apply Kd.R_alloc | apply Kd.R_drewN | apply Kd.R_drew)); exact HO302.out) hb); have n2_ := Aside0.mk (below_step (by repeat (first | (with_reducible first | exact HB.out | apply below_alloc | apply pw_below_drewN | apply below_drew1) | exact HB.out)) hb); clear HO300; clear HO302; clear HB; have HO300 := n0_; have HO302 := n1_; have HB := n2_; clear n0_ n1_ n2_; (try clear hb); (try clear hb2); (try clear hk); (try clear hi); obtain ⟨Ao28, co28, eo28⟩ := Kd.R_slice HO302.out; subst eo28) | (go_at_call 59; (with_reducible refine (ih kj6 (by have := HJ6.out; omega) a0 _ _ t298 (wrap64 (a2 - 1)) _ _ l3 t303 t304 _ ?side1 ?side2 ?side3 ?side4 A24.out).mono ?_); (case side1 => repeat (first | exact (Kd.R_reads' HO302.out).2.2 | (with_reducible refine Kd.C_alloc ?_ _) | (with_reducible refine Kd.C_drewN ?_ _) | (with_reducible refine Kd.C_drew ?_))); (case side2 => exact (Kd.R_reads' HO302.out).2.1); (case side3 => repeat (first | exact (Kd.C_below HR3.out HB.out) | (with_reducible refine Kd.C_alloc ?_ _) | (with_reducible refine Kd.C_drewN ?_ _) | (with_reducible refine Kd.C_drew ?_))); (case side4 => exact HC3.out); rintro e w29 ⟨rfl, hb⟩; have n0_ := Aside0.mk (Kd.R_below (by (with_reducible repeat (first | apply Kd.R_alloc | apply Kd.R_drewN | apply Kd.R_drew)); exact HO300.out) hb); have n1_ := Aside0.mk (Kd.R_below (by (with_reducible repeat (first | apply Kd.R_alloc | apply Kd.R_drewN | apply Kd.R_drew)); exact HO302.out) hb); have n2_ := Aside0.mk (below_step (by repeat (first | (with_reducible first | exact HB.out | apply below_alloc | apply pw_below_drewN | apply below_drew1) | exact HB.out)) hb); clear HO300; clear HO302; clear HB; have HO300 := n0_; have HO302 := n1_; have HB := n2_; clear n0_ n1_ n2_; (try clear hb); (try clear hb2); (try clear hk); (try clear hi))); try go_wp2_with (first | (go_at_call 86; (with_reducible refine (neonwrightref05_split.calls kj6 _ _ l1 (rd l3 a4) t297 t298 _ ?side1 ?side2 A18.out).mono ?_); (case side1 => repeat (first | exact (Kd.C_below HR1.out HB.out) | (with_reducible refine Kd.C_alloc ?_ _) | (with_reducible refine Kd.C_drewN ?_ _) | (with_reducible refine Kd.C_drew ?_))); (case side2 => exact HC1.out); rintro e w25 ⟨v299, v301, rfl, ho0, ho1, hb⟩; have n0_ := Aside0.mk (Kd.R_lower ho0 (below_size (by repeat (first | (with_reducible first | exact HB.out | apply below_alloc | apply pw_below_drewN | apply below_drew1) | exact HB.out)))); have n1_ := Aside0.mk (Kd.R_lower ho1 (below_size (by repeat (first | (with_reducible first | exact HB.out | apply below_alloc | apply pw_below_drewN | apply below_drew1) | exact HB.out)))); have n2_ := Aside0.mk (below_step (by repeat (first | (with_reducible first | exact HB.out | apply below_alloc | apply pw_below_drewN | apply below_drew1) | exact HB.out)) hb); clear HB; have HO300 := n0_; have HO302 := n1_; have HB := n2_; clear n0_ n1_ n2_; (try clear hb); (try clear hb2); (try clear hk); (try clear hi); (try clear ho0); (try clear ho1); obtain ⟨Ao26, co26, eo26⟩ := Kd.R_slice HO300.out; subst eo26) | (go_at_call 59; (with_reducible refine (ih kj6 (by have := HJ6.out; omega) a0 _ _ t297 (wrap64 (a2 - 1)) _ _ l3 (wrap64 (a4 + 1)) t303 _ ?side1 ?side2 ?side3 ?side4 A19.out).mono ?_); (case side1 => repeat (first | exact (Kd.R_reads' HO300.out).2.2 | (with_reducible refine Kd.C_alloc ?_ _) | (with_reducible refine Kd.C_drewN ?_ _) | (with_reducible refine Kd.C_drew ?_))); (case side2 => exact (Kd.R_reads' HO300.out).2.1); (case side3 => repeat (first | exact (Kd.C_below HR3.out HB.out) | (with_reducible refine Kd.C_alloc ?_ _) | (with_reducible refine Kd.C_drewN ?_ _) | (with_reducible refine Kd.C_drew ?_))); (case side4 => exact HC3.out); rintro e w27 ⟨rfl, hb⟩; have n0_ := Aside0.mk (Kd.R_below (by (with_reducible repeat (first | apply Kd.R_alloc | apply Kd.R_drewN | apply Kd.R_drew)); exact HO300.out) hb); have n1_ := Aside0.mk (Kd.R_below (by (with_reducible repeat (first | apply Kd.R_alloc | apply Kd.R_drewN | apply Kd.R_drew)); exact HO302.out) hb); have n2_ := Aside0.mk (below_step (by repeat (first | (with_reducible first | exact HB.out | apply below_alloc | apply pw_below_drewN | apply below_drew1) | exact HB.out)) hb); clear HO300; clear HO302; clear HB; have HO300 := n0_; have HO302 := n1_; have HB := n2_; clear n0_ n1_ n2_; (try clear hb); (try clear hb2); (try clear hk); (try clear hi); obtain ⟨Ao28, co28, eo28⟩ := Kd.R_slice HO302.out; subst eo28) | (go_at_call 59; (with_reducible refine (ih kj6 (by have := HJ6.out; omega) a0 _ _ t298 (wrap64 (a2 - 1)) _ _ l3 t303 t304 _ ?side1 ?side2 ?side3 ?side4 A24.out).mono ?_); (case side1 => repeat (first | exact (Kd.R_reads' HO302.out).2.2 | (with_reducible refine Kd.C_alloc ?_ _) | (with_reducible refine Kd.C_drewN ?_ _) | (with_reducible refine Kd.C_drew ?_))); (case side2 => exact (Kd.R_reads' HO302.out).2.1); (case side3 => repeat (first | exact (Kd.C_below HR3.out HB.out) | (with_reducible refine Kd.C_alloc ?_ _) | (with_reducible refine Kd.C_drewN ?_ _) | (with_reducible refine Kd.C_drew ?_))); (case side4 => exact HC3.out); rintro e w29 ⟨rfl, hb⟩; have n0_ := Aside0.mk (Kd.R_below (by (with_reducible repeat (first | apply Kd.R_alloc | apply Kd.R_drewN | apply Kd.R_drew)); exact HO300.out) hb); have n1_ := Aside0.mk (Kd.R_below (by (with_reducible repeat (first | apply Kd.R_alloc | apply Kd.R_drewN | apply Kd.R_drew)); exact HO302.out) hb); have n2_ := Aside0.mk (below_step (by repeat (first | (with_reducible first | exact HB.out | apply below_alloc | apply pw_below_drewN | apply below_drew1) | exact HB.out)) hb); clear HO300; clear HO302; clear HB; have HO300 := n0_; have HO302 := n1_; have HB := n2_; clear n0_ n1_ n2_; (try clear hb); (try clear hb2); (try clear hk); (try clear hi))))
                go_ret
                exact ⟨by first | rfl | (simp [errW_none, errW_some] <;> rfl) | (simp [*, errW_none, errW_some] <;> rfl), by repeat (first | (with_reducible first | exact HB.out | apply below_alloc | apply pw_below_drewN | apply below_drew1) | exact HB.out)⟩
            · rw [if_neg c17] at H
              exact absurd H (by simp)
          · rw [if_neg c16] at H
            exact absurd H (by simp)

end Go.Proofs.YtglajokjiphafaaDoor.P

namespace Go.Proofs.YtglajokjiphafaaDoor.P
open Go.RowKit Go.Proofs.YtglajokjiphafaaDoorW.PrintWords Go.Proofs.YtglajokjiphafaaDoorW.PrintLast Go.Proofs.YtglajokjiphafaaDoorW.PrintMore
attribute [local go_sem] max2_int min2_int max_two min_two max_three min_three max_four min_four   -- for this text's walks alone
set_option linter.unusedVariables false
set_option linter.unusedSimpArgs false

/-! ### neonwrightref05_Finds: function 31 -/
def neonwrightref05_Finds.f (k : Nat) (a0 : Int) (a1 : Int) (a2 : Int) (l3 : List Int) : Option (Bool × Int) := (neonwrightref05_Few.f k a0 a1).bind fun bt305 => (if bt305.2 = true then (if a2 < 0 then (some (false, 0)) else ((neonwrightref05_finds.f k a0 bt305.1 (mn a2 1000) l3 0).bind fun t309 => (some ((t309 == (l3.length : Int)), 0)))) else (some (false, 2)))
theorem neonwrightref05_Finds.mono : ∀ a0 a1 a2 a3 k, LeO (neonwrightref05_Finds.f k a0 a1 a2 a3) (neonwrightref05_Finds.f (k + 1) a0 a1 a2 a3) := by
  intro a0 a1 a2 a3 k
  unfold neonwrightref05_Finds.f
  repeat' first
      | (with_reducible exact neonwrightref05_Few.mono _ _ _)
      | (with_reducible exact neonwrightref05_finds.mono _ _ _ _ _ _)
      | (with_reducible exact LeO.refl _)
      | (with_reducible exact LeO.none _)
      | (with_reducible refine LeO.ite ?_ ?_)
      | (with_reducible refine LeO.bind ?_ (fun _ => ?_))
      | exact neonwrightref05_Few.mono _ _ _
      | exact neonwrightref05_finds.mono _ _ _ _ _ _
      | exact LeO.none _
      | refine LeO.ite ?_ ?_
      | refine LeO.bind ?_ (fun _ => ?_)
set_option maxHeartbeats 8000000 in
set_option maxRecDepth 100000 in
theorem neonwrightref05_Finds.calls (k : Nat) (a0 : Int) (a1 : Int) (a2 : Int) (A3 : Option Addr) (c3 : Nat) (l3 : List Int) (r1 : Bool) (r2 : Int) (w : World) (hr3 : Kd.C (Kd.int .i64) w A3 l3.length l3) (hc3 : l3.length ≤ c3) (h : neonwrightref05_Finds.f k a0 a1 a2 l3 = some (r1, r2)) :
    Calls Tryd.prog 31 #[.int .i64 a0, .int .i64 a1, .int .i64 a2, .slice A3 l3.length c3] w fun e w' => e = .returned (.tuple #[.bool r1, .int .i64 r2]) ∧ Below w.heap.size w w' := by
  have HR3 := Aside0.mk hr3
  have HC3 := Aside0.mk hc3
  clear hr3 hc3
  have HB := Aside0.mk (Below.refl w.heap.size w)
  have H : ((neonwrightref05_Few.f k a0 a1).bind fun bt305 => (if bt305.2 = true then (if a2 < 0 then (some (false, 0)) else ((neonwrightref05_finds.f k a0 bt305.1 (mn a2 1000) l3 0).bind fun t309 => (some ((t309 == (l3.length : Int)), 0)))) else (some (false, 2)))) = some (r1, r2) := h
  clear h
  replace H := Option.bind_eq_some_iff.mp H
  obtain ⟨⟨t305, t306⟩, A50, H⟩ := H
  replace H : (if t306 = true then (if a2 < 0 then (some (false, 0)) else ((neonwrightref05_finds.f k a0 t305 (mn a2 1000) l3 0).bind fun t309 => (some ((t309 == (l3.length : Int)), 0)))) else (some (false, 2))) = some (r1, r2) := H
  have A5 := Aside0.mk A50
  clear A50
  by_cases c6 : t306 = true
  · subst c6
    have H1 : (if a2 < 0 then (some (false, 0)) else ((neonwrightref05_finds.f k a0 t305 (mn a2 1000) l3 0).bind fun t309 => (some ((t309 == (l3.length : Int)), 0)))) = some (r1, r2) := by rw [if_pos rfl] at H; exact H
    clear H
    have H := H1
    clear H1
    by_cases c7 : a2 < 0
    · rw [if_pos c7] at H
      have c7b0 : decide (a2 < 0) = true := decide_eq_true c7
      clear c7
      simp only [Option.some.injEq, Prod.mk.injEq] at H
      obtain ⟨rfl, rfl⟩ := H
      go_enter Tryd.func31, Tryd.ntmps31
      go_wp2_with (first | ((with_reducible refine gate_callee (f := 23) rfl ?_); refine goesL_ (some 15) rfl rfl Tryd.func23 (by kernel_rfl) rfl #[.int .i64 a0, .int .i64 a1] rfl (by (try simp only [List.map_toArray, List.map_cons, List.map_nil]); first | done | rfl | (simp only [List.length_drop, List.length_take]; rfl)) ?_; (with_reducible refine (neonwrightref05_Few.calls k a0 a1 t305 true _ A5.out).mono ?_); rintro e w8 ⟨v307, rfl, ho0, hb⟩; refine ⟨_, rfl, ?_⟩; have n0_ := Aside0.mk (Kd.R_lower ho0 (below_size (by repeat (first | (with_reducible first | exact HB.out | apply below_alloc | apply pw_below_drewN | apply below_drew1) | exact HB.out)))); have n1_ := Aside0.mk (below_step (by repeat (first | (with_reducible first | exact HB.out | apply below_alloc | apply pw_below_drewN | apply below_drew1) | exact HB.out)) hb); clear HB; have HO308 := n0_; have HB := n1_; clear n0_ n1_; (try clear hb); (try clear hb2); (try clear hk); (try clear hi); (try clear ho0)))
      go_ret2
      exact ⟨by first | rfl | (simp [errW_none, errW_some] <;> rfl) | (simp [*, errW_none, errW_some] <;> rfl), by repeat (first | (with_reducible first | exact HB.out | apply below_alloc | apply pw_below_drewN | apply below_drew1) | exact HB.out)⟩
    · rw [if_neg c7] at H
      have c7b0 : decide (a2 < 0) = false := decide_eq_false c7
      clear c7
      obtain ⟨ji9, hji9⟩ : ∃ j_ : Int, (mn a2 1000) = j_ := ⟨_, rfl⟩
      replace H : ((neonwrightref05_finds.f k a0 t305 (ji9) l3 0).bind fun t309 => (some ((t309 == (l3.length : Int)), 0))) = some (r1, r2) := by first | (rw [hji9] at H; exact H) | (simp only [hji9] at H ⊢; exact H)
      (try rw [hji9] at A5)
      (try (have hji9h : ji9 ≤ 1000 := by (rw [← hji9]; unfold mn; (repeat' split) <;> omega)))
      (try (have hji9g : ji9 ≤ 64 := by omega))
      have hji9_ : (if 1000 < a2 then 1000 else a2) = ji9 := hji9
      replace H := Option.bind_eq_some_iff.mp H
      obtain ⟨t309, A100, H⟩ := H
      replace H : (some ((t309 == (l3.length : Int)), 0)) = some (r1, r2) := H
      have A10 := Aside0.mk A100
      clear A100
      simp only [Option.some.injEq, Prod.mk.injEq] at H
      obtain ⟨rfl, rfl⟩ := H
      go_enter Tryd.func31, Tryd.ntmps31
      go_wp2_with (first | ((with_reducible refine gate_callee (f := 23) rfl ?_); refine goesL_ (some 15) rfl rfl Tryd.func23 (by kernel_rfl) rfl #[.int .i64 a0, .int .i64 a1] rfl (by (try simp only [List.map_toArray, List.map_cons, List.map_nil]); first | done | rfl | (simp only [List.length_drop, List.length_take]; rfl)) ?_; (with_reducible refine (neonwrightref05_Few.calls k a0 a1 t305 true _ A5.out).mono ?_); rintro e w11 ⟨v307, rfl, ho0, hb⟩; refine ⟨_, rfl, ?_⟩; have n0_ := Aside0.mk (Kd.R_lower ho0 (below_size (by repeat (first | (with_reducible first | exact HB.out | apply below_alloc | apply pw_below_drewN | apply below_drew1) | exact HB.out)))); have n1_ := Aside0.mk (below_step (by repeat (first | (with_reducible first | exact HB.out | apply below_alloc | apply pw_below_drewN | apply below_drew1) | exact HB.out)) hb); clear HB; have HO308 := n0_; have HB := n1_; clear n0_ n1_; (try clear hb); (try clear hb2); (try clear hk); (try clear hi); (try clear ho0); obtain ⟨Ao12, co12, eo12⟩ := Kd.R_slice HO308.out; subst eo12) | ((with_reducible refine gate_callee (f := 59) rfl ?_); refine goesL_ (some 27) rfl rfl Tryd.func59 (by kernel_rfl) rfl #[.int .i64 a0, .slice Ao12 t305.length co12, .int .i64 ji9, .slice A3 l3.length c3, .int .i64 0] rfl (by (try simp only [List.map_toArray, List.map_cons, List.map_nil]); first | done | (simp only [hji9]; rfl) | rfl | (simp only [List.length_drop, List.length_take]; rfl)) ?_; (with_reducible refine (neonwrightref05_finds.calls k a0 _ _ t305 ji9 _ _ l3 0 t309 _ ?side1 ?side2 ?side3 ?side4 A10.out).mono ?_); (case side1 => repeat (first | exact (Kd.R_reads' HO308.out).2.2 | (with_reducible refine Kd.C_alloc ?_ _) | (with_reducible refine Kd.C_drewN ?_ _) | (with_reducible refine Kd.C_drew ?_))); (case side2 => exact (Kd.R_reads' HO308.out).2.1); (case side3 => repeat (first | exact (Kd.C_below HR3.out HB.out) | (with_reducible refine Kd.C_alloc ?_ _) | (with_reducible refine Kd.C_drewN ?_ _) | (with_reducible refine Kd.C_drew ?_))); (case side4 => exact HC3.out); rintro e w13 ⟨rfl, hb⟩; refine ⟨_, rfl, ?_⟩; have n0_ := Aside0.mk (Kd.R_below (by (with_reducible repeat (first | apply Kd.R_alloc | apply Kd.R_drewN | apply Kd.R_drew)); exact HO308.out) hb); have n1_ := Aside0.mk (below_step (by repeat (first | (with_reducible first | exact HB.out | apply below_alloc | apply pw_below_drewN | apply below_drew1) | exact HB.out)) hb); clear HO308; clear HB; have HO308 := n0_; have HB := n1_; clear n0_ n1_; (try clear hb); (try clear hb2); (try clear hk); (try clear hi)))
      go_ret2
      exact ⟨by first | rfl | (simp [errW_none, errW_some] <;> rfl) | (simp only [← hji9]; first | rfl | (simp [errW_none, errW_some] <;> rfl)) | (simp [*, errW_none, errW_some] <;> rfl), by repeat (first | (with_reducible first | exact HB.out | apply below_alloc | apply pw_below_drewN | apply below_drew1) | exact HB.out)⟩
  · replace c6 := Bool.eq_false_iff.mpr c6
    subst c6
    have H1 : (some (false, 2)) = some (r1, r2) := by rw [if_neg (show ¬ (false = true) by decide)] at H; exact H
    clear H
    have H := H1
    clear H1
    simp only [Option.some.injEq, Prod.mk.injEq] at H
    obtain ⟨rfl, rfl⟩ := H
    go_enter Tryd.func31, Tryd.ntmps31
    go_wp2_with (first | ((with_reducible refine gate_callee (f := 23) rfl ?_); refine goesL_ (some 15) rfl rfl Tryd.func23 (by kernel_rfl) rfl #[.int .i64 a0, .int .i64 a1] rfl (by (try simp only [List.map_toArray, List.map_cons, List.map_nil]); first | done | rfl | (simp only [List.length_drop, List.length_take]; rfl)) ?_; (with_reducible refine (neonwrightref05_Few.calls k a0 a1 t305 false _ A5.out).mono ?_); rintro e w14 ⟨v307, rfl, ho0, hb⟩; refine ⟨_, rfl, ?_⟩; have n0_ := Aside0.mk (Kd.R_lower ho0 (below_size (by repeat (first | (with_reducible first | exact HB.out | apply below_alloc | apply pw_below_drewN | apply below_drew1) | exact HB.out)))); have n1_ := Aside0.mk (below_step (by repeat (first | (with_reducible first | exact HB.out | apply below_alloc | apply pw_below_drewN | apply below_drew1) | exact HB.out)) hb); clear HB; have HO308 := n0_; have HB := n1_; clear n0_ n1_; (try clear hb); (try clear hb2); (try clear hk); (try clear hi); (try clear ho0)))
    go_ret2
    exact ⟨by first | rfl | (simp [errW_none, errW_some] <;> rfl) | (simp [*, errW_none, errW_some] <;> rfl), by repeat (first | (with_reducible first | exact HB.out | apply below_alloc | apply pw_below_drewN | apply below_drew1) | exact HB.out)⟩

end Go.Proofs.YtglajokjiphafaaDoor.P

set_option linter.unusedSimpArgs false
set_option linter.unusedVariables false
namespace Go.Proofs.YtglajokjiphafaaDoor.P
open Go.Lib Go.RowKit Go.Proofs.YtglajokjiphafaaDoorW.PrintWords Go.Proofs.YtglajokjiphafaaDoorW.PrintLast Go.Proofs.YtglajokjiphafaaDoorW.PrintMore Go.Proofs.YtglajokjiphafaaDoor.Kit

theorem few_err (n d : Int) (h : gameOk n d = false) (k : Nat) : neonwrightref05_Few.f (k + 1) n d = some (([] : List Int), false) := by
  have h' : n < 1 ∨ (¬ n < 1 ∧ 5 < n) ∨ (¬ n < 1 ∧ ¬ 5 < n ∧ d < 0) ∨ (¬ n < 1 ∧ ¬ 5 < n ∧ ¬ d < 0 ∧ n < d) := by
    unfold gameOk at h
    have := of_decide_eq_false h
    omega
  unfold neonwrightref05_Few.f
  rcases h' with h1 | ⟨h1, h2⟩ | ⟨h1, h2, h3⟩ | ⟨h1, h2, h3, h4⟩
  · rw [if_pos h1]; rfl
  · rw [if_neg h1, if_pos h2]; rfl
  · rw [if_neg h1, if_neg (by omega), if_pos h3]; rfl
  · rw [if_neg h1, if_neg (by omega), if_neg h3, decide_eq_true (by omega)]; rfl
theorem rfewest_err (n d : Int) (h : gameOk n d = false) (k : Nat) : neonwrightref05_Fewest.f (k + 1) n d = some (0, 2) := by
  unfold neonwrightref05_Fewest.f
  rw [few_err n d h k, Option.bind_some, if_neg (by decide)]
theorem rfinds_err (n d a : Int) (s : List Int) (h : gameOk n d = false) (k : Nat) : neonwrightref05_Finds.f (k + 1) n d a s = some (false, 2) := by
  unfold neonwrightref05_Finds.f
  rw [few_err n d h k, Option.bind_some, if_neg (by decide)]
end Go.Proofs.YtglajokjiphafaaDoor.P
