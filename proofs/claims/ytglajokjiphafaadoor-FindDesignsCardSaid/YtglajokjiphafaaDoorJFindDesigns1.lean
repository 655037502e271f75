/- Several texts of this session in one file, in build order: DRows, Pf34, Pf33, Pf35, DDesN, Pf16, DPure0, Pf28, DLists, Isort, HSort, DPoke, HFindDesigns. -/
import Derived.Test.YtglajokjiphafaaDoorJB1
import Derived.Deep.Matrix
import Derived.OpenShut
import Derived.ProofKit
import Derived.Test.YtglajokjiphafaaDoorJB2
import Init.Data.List.Sort.Lemmas
set_option linter.unusedSimpArgs false
set_option linter.unusedVariables false
namespace Go.Proofs.YtglajokjiphafaaDoor.P
open Go.Lib Go.RowKit Go.ChangeShapes Go.WideShapes Go.ChangeAt Go.Proofs.YtglajokjiphafaaDoorW.PrintWords Go.Proofs.YtglajokjiphafaaDoorW.PrintLast Go.Proofs.YtglajokjiphafaaDoorW.PrintMore

theorem C_scalar {k : IntKind} {w : World} {a : Addr} {zs : List Int} (hl : zs.length ≤ 9223372036854775807) (hc : ∀ i, (h : i < zs.length) → w.cell? (a.add i) = some (.int k zs[i])) : Kd.C (Kd.int k) w (some a) zs.length zs := by
  refine ⟨rfl, hl, fun _ => ⟨a, rfl, fun j p hp => ?_⟩⟩
  obtain ⟨hj, rfl⟩ := List.getElem?_eq_some_iff.1 hp
  refine ⟨[.int k zs[j]], rfl, rfl, fun i u hu => ?_⟩
  cases i with
  | zero =>
    have h1 : u = .int k zs[j] := by simpa using hu.symm
    subst h1
    have h2 : j * (Kd.int k).sz + 0 = j := by show j * 1 + 0 = j; omega
    rw [h2]
    exact hc j hj
  | succ i => simp at hu
theorem C_nil {α : Type} (d : Kd α) (w : World) (A : Option Addr) : Kd.C d w A ([] : List α).length [] := ⟨rfl, by simp, fun h => by simp at h⟩
theorem ints_open {H : Type} {enc : TypeId × Value → H} {w : World} {base : Nat} {held : Bool} {fuel : Nat} {A : Option Addr} {len cap : Nat} {x : DataW H × List MemPlace}
    (h : DataW.trod enc Tryd.prog w base (fun _ => true) held fuel 25 (Value.slice A len cap).cells.toList = some x) : ∃ z : List Int, z.length = len ∧ Kd.C (Kd.int .i64) w A len z ∧ len ≤ cap := by
  rcases open_ints Tryd.underlying25 Tryd.underlying3 (by kernel_rfl) h with ⟨hcs, _⟩ | ⟨a, l, c, zs, hcs, _, hl, hm, hz, _, hcell, hwz⟩
  · simp [Value.cells] at hcs
    obtain ⟨rfl, rfl, rfl⟩ := hcs
    exact ⟨[], rfl, C_nil _ _ _, Nat.le_refl _⟩
  · simp [Value.cells] at hcs
    obtain ⟨rfl, rfl, rfl⟩ := hcs
    have hzl : zs.length = cap := by simpa using hz
    have ht : (zs.take len).length = len := by rw [List.length_take]; omega
    refine ⟨zs.take len, ht, ?_, hl⟩
    have := C_scalar (k := .i64) (w := w) (a := a) (zs := zs.take len) (by rw [ht]; unfold maxLen at hm; omega) (fun i hi => by
      have h1 := hcell i (by rw [List.length_take] at hi; omega)
      rw [h1]
      rw [List.length_take] at hi
      simp [List.getD_eq_getElem?_getD, List.getElem?_eq_getElem (show i < zs.length by omega)])
    rw [ht] at this
    exact this
theorem rows_open {H : Type} {enc : TypeId × Value → H} {w : World} {base : Nat} {held : Bool} {fuel : Nat} {A : Option Addr} {len cap : Nat} {x : DataW H × List MemPlace}
    (h : DataW.trod enc Tryd.prog w base (fun _ => true) held fuel 22 (Value.slice A len cap).cells.toList = some x) : ∃ z : List (List Int), z.length = len ∧ Kd.C (Kd.slice 3 (Kd.int .i64)) w A len z ∧ len ≤ cap := by
  rcases Go.Deep.open_int_rows Tryd.underlying22 Tryd.underlying25 Tryd.underlying3 (by kernel_rfl) (by kernel_rfl) h with ⟨hcs, _⟩ | ⟨a, l, c, A1, L, C, Z, hcs, _, hl, hm, _, hr⟩
  · simp [Value.cells] at hcs
    obtain ⟨rfl, rfl, rfl⟩ := hcs
    exact ⟨[], rfl, C_nil _ _ _, Nat.le_refl _⟩
  · simp [Value.cells] at hcs
    obtain ⟨rfl, rfl, rfl⟩ := hcs
    refine ⟨(List.range len).map fun r => (Z r).take (L r), by simp, ⟨by simp, by unfold maxLen at hm; omega, fun _ => ⟨a, rfl, fun j p hp => ?_⟩⟩, hl⟩
    obtain ⟨hj, rfl⟩ := List.getElem?_eq_some_iff.1 hp
    have hj' : j < len := by simpa using hj
    obtain ⟨h1, h2, h3, h4, _, h6, h7⟩ := hr j (by omega)
    have ht : ((Z j).take (L j)).length = L j := by rw [List.length_take]; omega
    refine ⟨[.slice (A1 j) (L j) (C j)], rfl, ⟨A1 j, C j, by simp [ht], by simp [ht]; omega, ?_⟩, fun i u hu => ?_⟩
    · rw [List.getElem_map, List.getElem_range]
      cases hA : A1 j with
      | none =>
        have h0 := h6 hA
        have hz : (Z j).take (L j) = [] := List.length_eq_zero_iff.1 (by omega)
        rw [hz]
        exact C_nil _ _ _
      | some a' =>
        have h8 := (h7 a' hA).2
        exact C_scalar (by rw [ht]; unfold maxLen at h3; omega) (fun i hi => by
          rw [h8 i (by omega)]
          simp [List.getD_eq_getElem?_getD, List.getElem?_eq_getElem (show i < (Z j).length by omega)])
    · cases i with
      | zero =>
        have h9 : u = .slice (A1 j) (L j) (C j) := by simpa using hu.symm
        subst h9
        have h10 : j * (Kd.slice 3 (Kd.int .i64)).sz + 0 = j := by show j * 1 + 0 = j; omega
        rw [h10]
        exact h1
      | succ i => simp at hu
end Go.Proofs.YtglajokjiphafaaDoor.P

namespace Go.Proofs.YtglajokjiphafaaDoor.P
open Go.RowKit Go.Proofs.YtglajokjiphafaaDoorW.PrintWords Go.Proofs.YtglajokjiphafaaDoorW.PrintLast Go.Proofs.YtglajokjiphafaaDoorW.PrintMore
attribute [local go_sem] max2_int min2_int max_two min_two max_three min_three max_four min_four   -- for this text's walks alone
set_option linter.unusedVariables false
set_option linter.unusedSimpArgs false

/-! ### find_Halves: function 34 -/
mutual
def find_Halves.j0 : Nat → Int → Bool → Option ((List (List Int)) × Int)
  | 0, _, _ => none
  | k + 1, x0, x12 => if x12 = true then (some (([] : List (List Int)), 2)) else ((bits_Len.f (IntKind.u64.wrap (wrap64 (x0 - 1)))).bind fun t358 => (if 0 ≤ t358 then (if (t358 : Int).toNat ≤ 11728124029610 then (find_Halves.l0 k (List.replicate (t358 : Int).toNat []) x0 0) else (none)) else (none)))
def find_Halves.l0 : Nat → List (List Int) → Int → Int → Option ((List (List Int)) × Int)
  | 0, _, _, _ => none
  | k + 1, x4, x18, x19 => if x19 < x18 then (find_Halves.l1 k x4 x19 x18 x19 (x4.length : Int) 0) else (some (x4, 0))
def find_Halves.l1 : Nat → List (List Int) → Int → Int → Int → Int → Int → Option ((List (List Int)) × Int)
  | 0, _, _, _, _, _, _ => none
  | k + 1, x4, x5, x18, x19, x23, x24 => if x24 < x23 then (if 0 ≤ x24 then (if (Go.bits .and .i64 x5 (shl .i64 1 x24)) = 0 then (find_Halves.l1 k x4 x5 x18 x19 x23 (wrap64 (x24 + 1))) else (if x24 < (x4.length : Int) then (if (rd_L1 x4 x24).length < 17592186044416 then (find_Halves.l1 k (x4.set (x24 : Int).toNat ((rd_L1 x4 x24) ++ [x5])) x5 x18 x19 x23 (wrap64 (x24 + 1))) else (none)) else (none))) else (none)) else (find_Halves.l0 k x4 x18 (wrap64 (x19 + 1)))
end
def find_Halves.f (k : Nat) (a0 : Int) : Option ((List (List Int)) × Int) := if a0 < 1 then (find_Halves.j0 k a0 true) else (find_Halves.j0 k a0 (decide (a0 > 49)))
theorem find_Halves.mono_l : ∀ k, (∀ y0 y1, LeO (find_Halves.j0 k y0 y1) (find_Halves.j0 (k + 1) y0 y1)) ∧ (∀ y0 y1 y2, LeO (find_Halves.l0 k y0 y1 y2) (find_Halves.l0 (k + 1) y0 y1 y2)) ∧ (∀ y0 y1 y2 y3 y4 y5, LeO (find_Halves.l1 k y0 y1 y2 y3 y4 y5) (find_Halves.l1 (k + 1) y0 y1 y2 y3 y4 y5))
  | 0 => ⟨fun _ _ r h => by simp [find_Halves.j0] at h, fun _ _ _ r h => by simp [find_Halves.l0] at h, fun _ _ _ _ _ _ r h => by simp [find_Halves.l1] at h⟩
  | k + 1 => by
    obtain ⟨ih0, ih1, ih2⟩ := find_Halves.mono_l k
    refine ⟨?_, ?_, ?_⟩
    · intro y0 y1
      unfold find_Halves.j0
      repeat' first
      | (with_reducible exact ih0 _ _)
      | (with_reducible exact ih1 _ _ _)
      | (with_reducible exact ih2 _ _ _ _ _ _)
      | (with_reducible exact LeO.refl _)
      | (with_reducible exact LeO.none _)
      | (with_reducible refine LeO.ite ?_ ?_)
      | (with_reducible refine LeO.bind ?_ (fun _ => ?_))
      | exact ih0 _ _
      | exact ih1 _ _ _
      | exact ih2 _ _ _ _ _ _
      | exact LeO.none _
      | refine LeO.ite ?_ ?_
      | refine LeO.bind ?_ (fun _ => ?_)
    · intro y0 y1 y2
      unfold find_Halves.l0
      repeat' first
      | (with_reducible exact ih0 _ _)
      | (with_reducible exact ih1 _ _ _)
      | (with_reducible exact ih2 _ _ _ _ _ _)
      | (with_reducible exact LeO.refl _)
      | (with_reducible exact LeO.none _)
      | (with_reducible refine LeO.ite ?_ ?_)
      | (with_reducible refine LeO.bind ?_ (fun _ => ?_))
      | exact ih0 _ _
      | exact ih1 _ _ _
      | exact ih2 _ _ _ _ _ _
      | exact LeO.none _
      | refine LeO.ite ?_ ?_
      | refine LeO.bind ?_ (fun _ => ?_)
    · intro y0 y1 y2 y3 y4 y5
      unfold find_Halves.l1
      repeat' first
      | (with_reducible exact ih0 _ _)
      | (with_reducible exact ih1 _ _ _)
      | (with_reducible exact ih2 _ _ _ _ _ _)
      | (with_reducible exact LeO.refl _)
      | (with_reducible exact LeO.none _)
      | (with_reducible refine LeO.ite ?_ ?_)
      | (with_reducible refine LeO.bind ?_ (fun _ => ?_))
      | exact ih0 _ _
      | exact ih1 _ _ _
      | exact ih2 _ _ _ _ _ _
      | exact LeO.none _
      | refine LeO.ite ?_ ?_
      | refine LeO.bind ?_ (fun _ => ?_)
theorem find_Halves.mono : ∀ a0 k, LeO (find_Halves.f k a0) (find_Halves.f (k + 1) a0) := by
  intro a0 k
  obtain ⟨ih0, ih1, ih2⟩ := find_Halves.mono_l k
  unfold find_Halves.f
  repeat' first
      | (with_reducible exact ih0 _ _)
      | (with_reducible exact ih1 _ _ _)
      | (with_reducible exact ih2 _ _ _ _ _ _)
      | (with_reducible exact LeO.refl _)
      | (with_reducible exact LeO.none _)
      | (with_reducible refine LeO.ite ?_ ?_)
      | (with_reducible refine LeO.bind ?_ (fun _ => ?_))
      | exact ih0 _ _
      | exact ih1 _ _ _
      | exact ih2 _ _ _ _ _ _
      | exact LeO.none _
      | refine LeO.ite ?_ ?_
      | refine LeO.bind ?_ (fun _ => ?_)
set_option maxHeartbeats 8000000 in
set_option maxRecDepth 100000 in
theorem find_Halves.calls (k : Nat) (a0 : Int) (r1 : List (List Int)) (r2 : Int) (w : World) (h : find_Halves.f k a0 = some (r1, r2)) :
    Calls Tryd.prog 34 #[.int .i64 a0] w fun e w' => ∃ v0_ : Value, e = .returned (.tuple #[v0_, .int .i64 r2]) ∧ Kd.S (Kd.slice 3 (Kd.int .i64)) 25 w' w.heap.size (fun _ => True) v0_ r1 ∧ Below w.heap.size w w' := by
  have HB := Aside0.mk (Below.refl w.heap.size w)
  have H : (if a0 < 1 then (find_Halves.j0 k a0 true) else (find_Halves.j0 k a0 (decide (a0 > 49)))) = some (r1, r2) := h
  clear h
  have HC2 := Aside0.mk H
  clear H
  go_enter Tryd.func34, Tryd.ntmps34
  go_upto_region 1 with (fail)
  go_cut [12] (fun v12 wc => ∃ (kq : Nat) (x12_1 : Bool), v12 = .bool x12_1 ∧ Aside0 (find_Halves.j0 kq a0 x12_1 = some (r1, r2)) ∧ Aside0 (kq ≤ k) ∧ Aside0 (Below w.heap.size w wc))
  case first =>
    have H := HC2.out
    clear HC2
    by_cases c3 : a0 < 1
    · rw [if_pos c3] at H
      have c3b0 : decide (a0 < 1) = true := decide_eq_true c3
      clear c3
      (first | rw [c3b0] | (simp only [i64_w, i32_w]; rw [c3b0]) | skip)
      have H' := Aside0.mk H
      clear H
      go_wp2
      go_meet
      case rel => exact ⟨_, (true), (by first | rfl | (simp; done) | (simp [*]; done)), H', ⟨by first | omega | exact Nat.le_refl _⟩, ⟨by repeat (first | (with_reducible first | exact HB.out | apply below_alloc | apply pw_below_drewN | apply below_drew1) | exact HB.out)⟩⟩
    · rw [if_neg c3] at H
      have c3b0 : decide (a0 < 1) = false := decide_eq_false c3
      clear c3
      (first | rw [c3b0] | (simp only [i64_w, i32_w]; rw [c3b0]) | skip)
      have H' := Aside0.mk H
      clear H
      go_wp2
      go_meet
      case rel => exact ⟨_, (decide (a0 > 49)), (by first | rfl | (simp; done) | (simp [*]; done)), H', ⟨by first | omega | exact Nat.le_refl _⟩, ⟨by repeat (first | (with_reducible first | exact HB.out | apply below_alloc | apply pw_below_drewN | apply below_drew1) | exact HB.out)⟩⟩
  case rest =>
    clear HC2
    try clear p2
    try clear c3
    try clear c3b0
    obtain ⟨kq, x12_1, rfl, HA, HJ1, HB⟩ := hcut
    cases kq with
    | zero => exact absurd HA.out (by simp [find_Halves.j0])
    | succ kj1 =>
      have H := HA.out
      clear HA
      simp only [find_Halves.j0] at H
      by_cases c4 : x12_1 = true
      · subst c4
        have H1 : (some (([] : List (List Int)), 2)) = some (r1, r2) := by rw [if_pos rfl] at H; exact H
        clear H
        have H := H1
        clear H1
        simp only [Option.some.injEq, Prod.mk.injEq] at H
        obtain ⟨rfl, rfl⟩ := H
        go_wp2
        go_ret2
        exact ⟨_, by first | rfl | (simp [errW_none, errW_some] <;> rfl) | (simp [*, errW_none, errW_some] <;> rfl), by first | exact Kd.S_nil _ _ _ _ _ | exact Kd.N_nil _ _ _ _ _ | exact Kd.V_nil _ _ _ _ _ | exact Kd.Q_nil _ _ _ _ _ | exact Kd.R_nil _ _ _ _ _, by repeat (first | (with_reducible first | exact HB.out | apply below_alloc | apply pw_below_drewN | apply below_drew1) | exact HB.out)⟩
      · replace c4 := Bool.eq_false_iff.mpr c4
        subst c4
        have H1 : ((bits_Len.f (IntKind.u64.wrap (wrap64 (a0 - 1)))).bind fun t358 => (if 0 ≤ t358 then (if (t358 : Int).toNat ≤ 11728124029610 then (find_Halves.l0 kj1 (List.replicate (t358 : Int).toNat []) a0 0) else (none)) else (none))) = some (r1, r2) := by rw [if_neg (show ¬ (false = true) by decide)] at H; exact H
        clear H
        have H := H1
        clear H1
        replace H := Option.bind_eq_some_iff.mp H
        obtain ⟨t358, A50, H⟩ := H
        replace H : (if 0 ≤ t358 then (if (t358 : Int).toNat ≤ 11728124029610 then (find_Halves.l0 kj1 (List.replicate (t358 : Int).toNat []) a0 0) else (none)) else (none)) = some (r1, r2) := H
        have A5 := Aside0.mk A50
        clear A50
        by_cases c6 : 0 ≤ t358
        · rw [if_pos c6] at H
          have c6b0 := eq_true c6
          have c6b1 : decide (0 ≤ t358) = true := decide_eq_true c6
          clear c6
          by_cases c7 : (t358 : Int).toNat ≤ 11728124029610
          · rw [if_pos c7] at H
            have c7b0 := eq_true c7
            have c7b1 : decide ((t358 : Int).toNat ≤ 11728124029610) = true := decide_eq_true c7
            clear c7
            obtain ⟨y359, hy359⟩ : ∃ y_ : List (List Int), y_ = (List.replicate (t358 : Int).toNat []) := ⟨_, rfl⟩
            replace H : (find_Halves.l0 kj1 y359 a0 0) = some (r1, r2) := by first | (rw [hy359]; with_reducible exact H) | (have H2_ := (Option.bind_some _ _).symm.trans H; rw [hy359]; with_reducible exact H2_) | (have H2_ := (Option.bind_some _ _).symm.trans H; with_reducible exact H2_) | with_reducible exact H | (rw [hy359]; exact H) | exact H
            have Ny359 := Aside0.mk hy359
            clear hy359
            have H' := Aside0.mk H
            clear H
            go_wp2_with (first | ((with_reducible refine gate_callee (f := 61) rfl ?_); refine goesL_ (some 16) rfl rfl Tryd.func61 (by kernel_rfl) rfl #[.int .u64 (IntKind.u64.wrap (wrap64 (a0 - 1)))] rfl (by (try simp only [List.map_toArray, List.map_cons, List.map_nil]); first | done | rfl | (simp only [List.length_drop, List.length_take]; rfl)) ?_; (with_reducible refine (bits_Len.calls (IntKind.u64.wrap (wrap64 (a0 - 1))) t358 _ A5.out).mono ?_); rintro e w' ⟨rfl, ⟨nd, rfl⟩⟩; refine ⟨_, rfl, ?_⟩) | ((with_reducible refine gate_dst (N := 17) rfl ?_); refine Kd.S_make (Kd.slice 3 (Kd.int .i64)) _ 25 rfl (N := 17) rfl 22 _ _ rfl t358 rfl rfl Tryd.underlying22 (.slice none 0 0) 24 info25 rfl (by decide) (by omega) [] (ok := fun _ => True) (okp := fun _ => True) ⟨_, rfl, Kd.R_nil _ _ _ _ _⟩ (fun _ hk => hk) trivial (of_decide_eq_true (by first | (with_reducible assumption) | assumption)) (Nat.le_trans (Nat.mul_le_mul_right _ (of_decide_eq_true (by first | (with_reducible assumption) | assumption) : t358.toNat ≤ 11728124029610)) (by omega)) (Below.refl _ _) (Nat.le_refl _) ?_; intro v360 w8 ho9 hb hg_ hnew_; clear hg_ hnew_; (first | rw [← Ny359.out] at ho9 | (simp only [Int.reduceToNat] at ho9; rw [← Ny359.out] at ho9)); have n0_ := Aside0.mk (Kd.S_lower ho9 (below_size (by repeat (first | (with_reducible first | exact HB.out | apply below_alloc | apply pw_below_drewN | apply below_drew1) | exact HB.out)))); have n1_ := Aside0.mk (below_step (by repeat (first | (with_reducible first | exact HB.out | apply below_alloc | apply pw_below_drewN | apply below_drew1) | exact HB.out)) hb); clear HB; have HO361 := n0_; have HB := n1_; clear n0_ n1_; clear hb ho9))
            go_loopg [19] kj1 (fun kq v19 w' => ∃ (x4_2 : List (List Int)) (x19_2 : Int), v19 = .int .i64 x19_2 ∧ Aside0 (find_Halves.l0 kq x4_2 a0 x19_2 = some (r1, r2)) ∧ Aside0 (kq ≤ kj1) ∧ Aside0 (Kd.S (Kd.slice 3 (Kd.int .i64)) 25 w' w.heap.size (fun _ => True) v360 x4_2) ∧ Aside0 (Below w.heap.size w w'))
            case atStart => exact ⟨(y359), (0), (by first | rfl | (simp; done) | (simp [*]; done)), H', ⟨Nat.le_refl _⟩, ⟨by (with_reducible repeat (first | apply Kd.S_alloc | apply Kd.S_drewN | apply Kd.S_drew)); first | exact HO361.out | exact Kd.R_mono HO361.out (fun k_ h_ => ne_own_len h_)⟩, ⟨by repeat (first | (with_reducible first | exact HB.out | apply below_alloc | apply pw_below_drewN | apply below_drew1) | exact HB.out)⟩⟩
            case round =>
              clear H'
              try clear p2
              try clear c3
              try clear c3b0
              try clear c4
              try clear c6
              try clear c6b0
              try clear c6b1
              try clear p6
              try clear c7
              try clear c7b0
              try clear c7b1
              try clear p2
              obtain ⟨x4_2, x19_2, rfl, HA, HK2, HO_4, HB⟩ := hrel
              cases gk with
              | zero => exact absurd HA.out (by simp [find_Halves.l0])
              | succ k2 =>
                have H := HA.out
                clear HA
                simp only [find_Halves.l0] at H
                by_cases c10 : x19_2 < a0
                · rw [if_pos c10] at H
                  have c10b0 : decide (x19_2 < a0) = true := decide_eq_true c10
                  clear c10
                  have H' := Aside0.mk H
                  clear H
                  obtain ⟨Ao11, co11, eo11⟩ := Kd.S_slice HO_4.out
                  subst eo11
                  go_wp2
                  go_loopg [24] k2 (fun kq v24 w' => ∃ (x4_3 : List (List Int)) (x24_3 : Int), v24 = .int .i64 x24_3 ∧ Aside0 (find_Halves.l1 kq x4_3 x19_2 a0 x19_2 (x4_2.length : Int) x24_3 = some (r1, r2)) ∧ Aside0 (kq ≤ k2) ∧ Aside0 (Kd.S (Kd.slice 3 (Kd.int .i64)) 25 w' w.heap.size (fun _ => True) (.slice Ao11 x4_2.length co11) x4_3) ∧ Aside0 (Below w.heap.size w w'))
                  case atStart => exact ⟨(x4_2), (0), (by first | rfl | (simp; done) | (simp [*]; done)), H', ⟨Nat.le_refl _⟩, ⟨by (with_reducible repeat (first | apply Kd.S_alloc | apply Kd.S_drewN | apply Kd.S_drew)); first | exact HO_4.out | exact Kd.R_mono HO_4.out (fun k_ h_ => ne_own_len h_)⟩, ⟨by repeat (first | (with_reducible first | exact HB.out | apply below_alloc | apply pw_below_drewN | apply below_drew1) | exact HB.out)⟩⟩
                  case round =>
                    clear H'
                    try clear c1
                    try clear p2
                    try clear c3
                    try clear c3b0
                    try clear c4
                    try clear c6
                    try clear c6b0
                    try clear c6b1
                    try clear p6
                    try clear c7
                    try clear c7b0
                    try clear c7b1
                    try clear c10
                    try clear c10b0
                    try clear p2
                    try clear p6
                    obtain ⟨x4_3, x24_3, rfl, HA, HK3, HO_4, HB⟩ := hrel
                    have hl4_3 := (Kd.S_reads' HO_4.out).1
                    rw [hl4_3] at HO_4
                    (try simp only [hl4_3])
                    cases gk with
                    | zero => exact absurd HA.out (by simp [find_Halves.l1])
                    | succ k3 =>
                      have H := HA.out
                      clear HA
                      simp only [find_Halves.l1] at H
                      by_cases c12 : x24_3 < (x4_2.length : Int)
                      · rw [if_pos c12] at H
                        have c12b0 : decide (x24_3 < (x4_2.length : Int)) = true := decide_eq_true c12
                        (try (have c12h := c12b0; simp only [hl4_3] at c12h))
                        clear c12
                        by_cases c13 : 0 ≤ x24_3
                        · rw [if_pos c13] at H
                          have c13b0 := eq_true c13
                          have c13b1 : decide (0 ≤ x24_3) = true := decide_eq_true c13
                          clear c13
                          obtain ⟨ji14, hji14⟩ : ∃ j_ : Int, (shl .i64 1 x24_3) = j_ := ⟨_, rfl⟩
                          replace H : (if (Go.bits .and .i64 x19_2 (ji14)) = 0 then (find_Halves.l1 k3 x4_3 x19_2 a0 x19_2 (x4_2.length : Int) (wrap64 (x24_3 + 1))) else (if x24_3 < (x4_3.length : Int) then (if (rd_L1 x4_3 x24_3).length < 17592186044416 then (find_Halves.l1 k3 (x4_3.set (x24_3 : Int).toNat ((rd_L1 x4_3 x24_3) ++ [x19_2])) x19_2 a0 x19_2 (x4_2.length : Int) (wrap64 (x24_3 + 1))) else (none)) else (none))) = some (r1, r2) := by first | (rw [hji14] at H; exact H) | (simp only [hji14] at H ⊢; exact H)
                          have hji14_ : (IntKind.i64.wrap (1 * 2 ^ min x24_3.toNat 64)) = ji14 := hji14
                          have hji14z : x24_3 ≤ 64 → (IntKind.i64.wrap (1 * 2 ^ x24_3.toNat)) = ji14 := shl_small hji14
                          have hji14u : (IntKind.i64.wrap (2 ^ min x24_3.toNat 64)) = ji14 := by have h_ := hji14_; rw [Int.one_mul] at h_; exact h_
                          have hji14v : x24_3 ≤ 64 → (IntKind.i64.wrap (2 ^ x24_3.toNat)) = ji14 := fun hle_ => by have h_ := hji14z hle_; rw [Int.one_mul] at h_; exact h_
                          have hji14y : (wrap64 (1 * 2 ^ min x24_3.toNat 64)) = ji14 := (i64_w _).symm.trans hji14_
                          have hji14x : x24_3 ≤ 64 → (wrap64 (1 * 2 ^ x24_3.toNat)) = ji14 := fun h_ => (i64_w _).symm.trans (hji14z h_)
                          by_cases c15 : (Go.bits .and .i64 x19_2 (ji14)) = 0
                          · rw [if_pos c15] at H
                            have c15b0 : ((Go.bits .and .i64 x19_2 (ji14)) == 0) = true := beq_iff_eq.mpr c15
                            have c15b1 : ((Go.bits .and .i64 x19_2 (ji14)) != 0) = false := bne_eq_false_iff_eq.mpr c15
                            clear c15
                            have H' := Aside0.mk H
                            clear H
                            go_wp2
                            (try simp only [← hl4_3])
                            go_roundg k3
                            case measure => have := HJ1.out; have := HK2.out; have := HK3.out; omega
                            case rel => exact ⟨(x4_3), (wrap64 (x24_3 + 1)), (by first | rfl | (simp; done) | (simp [*]; done)), H', ⟨by have := HJ1.out; have := HK2.out; have := HK3.out; omega⟩, ⟨by (try simp only [hl4_3]); (with_reducible repeat (first | apply Kd.S_alloc | apply Kd.S_drewN | apply Kd.S_drew)); first | exact HO_4.out | exact Kd.R_mono HO_4.out (fun k_ h_ => ne_own_len h_)⟩, ⟨by repeat (first | (with_reducible first | exact HB.out | apply below_alloc | apply pw_below_drewN | apply below_drew1) | exact HB.out)⟩⟩
                          · rw [if_neg c15] at H
                            have c15b0 : ((Go.bits .and .i64 x19_2 (ji14)) == 0) = false := beq_eq_false_iff_ne.mpr c15
                            have c15b1 : ((Go.bits .and .i64 x19_2 (ji14)) != 0) = true := bne_iff_ne.mpr c15
                            by_cases c16 : x24_3 < (x4_3.length : Int)
                            · rw [if_pos c16] at H
                              have c16b0 : decide (x24_3 < (x4_3.length : Int)) = true := decide_eq_true c16
                              (try (have c16h := c16b0; simp only [hl4_3] at c16h))
                              clear c16
                              by_cases c17 : (rd_L1 x4_3 x24_3).length < 17592186044416
                              · rw [if_pos c17] at H
                                have LMc17 := Aside0.mk c17
                                clear c17
                                obtain ⟨y363, hy363⟩ : ∃ y_ : List Int, y_ = ((rd_L1 x4_3 x24_3) ++ [x19_2]) := ⟨_, rfl⟩
                                replace H : (find_Halves.l1 k3 (x4_3.set (x24_3 : Int).toNat y363) x19_2 a0 x19_2 (x4_2.length : Int) (wrap64 (x24_3 + 1))) = some (r1, r2) := by first | (rw [hy363]; with_reducible exact H) | (have H2_ := (Option.bind_some _ _).symm.trans H; rw [hy363]; with_reducible exact H2_) | (have H2_ := (Option.bind_some _ _).symm.trans H; with_reducible exact H2_) | with_reducible exact H | (rw [hy363]; exact H) | exact H
                                have Ny363 := Aside0.mk hy363
                                clear hy363
                                obtain ⟨y366, hy366⟩ : ∃ y_ : List (List Int), y_ = (x4_3.set (x24_3 : Int).toNat y363) := ⟨_, rfl⟩
                                replace H : (find_Halves.l1 k3 y366 x19_2 a0 x19_2 (x4_2.length : Int) (wrap64 (x24_3 + 1))) = some (r1, r2) := by first | (rw [hy366]; with_reducible exact H) | (have H2_ := (Option.bind_some _ _).symm.trans H; rw [hy366]; with_reducible exact H2_) | (have H2_ := (Option.bind_some _ _).symm.trans H; with_reducible exact H2_) | with_reducible exact H | (rw [hy366]; exact H) | exact H
                                have Ny366 := Aside0.mk hy366
                                clear hy366
                                have H' := Aside0.mk H
                                clear H
                                have p362 : 0 ≤ (x24_3 : Int) := of_decide_eq_true (by first | (with_reducible assumption) | assumption)
                                have q362 : x24_3 < (x4_3.length : Int) := of_decide_eq_true (by first | (with_reducible assumption) | assumption)
                                obtain ⟨ad362, A362_0, c362_0, e362, hx362_0, hl362_0, hi362_0⟩ := at_L1 (Kd.S_reads' HO_4.out).2.2 x24_3 p362 q362
                                cases e362
                                obtain ⟨ce362, hce362, hMe362, hcc362⟩ := Kd.S_get HO_4.out [] x24_3 p362 (by first | exact q362 | exact of_decide_eq_true (by first | (with_reducible assumption) | assumption) | (have e_ := (Kd.S_reads' HO_4.out).1; omega))
                                obtain ⟨ve362_0, rfl, ge362_0⟩ := hMe362
                                have hv362_0 := hcc362 0 _ rfl
                                rw [Nat.add_zero, show ((Kd.slice 3 (Kd.int .i64))).sz = 1 from rfl, Nat.mul_one] at hv362_0
                                replace hv362_0 := Option.some.inj (hv362_0.symm.trans hx362_0)
                                rw [hv362_0] at ge362_0
                                have HL362_0 := Aside0.mk (show Kd.R (Kd.int .i64) 3 _ _ _ _ (rd_L1 x4_3 x24_3) from ge362_0)
                                clear hv362_0 ge362_0
                                have HX362_0 := Aside0.mk hx362_0
                                clear hcc362 hce362
                                have HR362_0 := Aside0.mk hi362_0
                                have HC362_0 := Aside0.mk hl362_0
                                clear hi362_0 hl362_0
                                replace p362 := eq_true p362
                                replace q362 := eq_true q362
                                obtain ⟨go19, co19, eo19, gb19, gl19, cl19, HG19⟩ := Kd.S_form HO_4.out (by have h_ : (x24_3 : Int) < ((x4_3.length : Int) : Int) := of_decide_eq_true (by first | (with_reducible assumption) | assumption); have h2_ : 0 ≤ (x24_3 : Int) := (of_decide_eq_true (by first | (with_reducible assumption) | assumption)); omega)
                                (first | cases eo19 | (injection eo19 with ea_ en_ ec_; (first | subst ea_ | (injection ea_ with ea_; subst ea_)); subst ec_; clear en_))
                                have GB19 := Aside0.mk gb19
                                have GG19 := Aside0.mk HG19
                                clear gb19 gl19 HG19
                                (first | simp only [add_plain] at hx362_0 | skip)
                                obtain ⟨oki19, ce19, hcl19, hM19, hcc19, _, _, hH19⟩ := Kd.S_elem HO_4.out [] (x24_3 : Int) (of_decide_eq_true (by first | (with_reducible assumption) | assumption)) (by have h_ : (x24_3 : Int) < ((x4_3.length : Int) : Int) := of_decide_eq_true (by first | (with_reducible assumption) | assumption); first | exact h_ | (have e_ := (Kd.S_reads' HO_4.out).1; omega) | simpa using h_)
                                obtain ⟨ve19_0, rfl, ge19_0⟩ := hM19
                                have hv19 := hcc19 0 _ rfl
                                have hX19 := HX362_0.out
                                (try simp only [add_plain] at hX19)
                                (try simp only [Nat.add_zero] at hv19)
                                (try rw [show ((Kd.slice 3 (Kd.int .i64))).sz = 1 from rfl, Nat.mul_one] at hv19)
                                replace hv19 := Option.some.inj (hv19.symm.trans hX19)
                                subst hv19
                                clear hX19 hcc19 hcl19
                                have UU19 := Aside0.mk (show Kd.R (Kd.int .i64) 3 _ w.heap.size oki19 (.slice A362_0 (rd_L1 x4_3 x24_3).length c362_0) (rd_L1 x4_3 x24_3) from ge19_0)
                                have HH19 := Aside0.mk hH19
                                have HN19 := Aside0.mk (Kd.S_reads' HO_4.out).1
                                clear hH19 ge19_0
                                go_wp2_with (first | ((with_reducible refine gate_builtin (b := .append) (xs := #[.tmp 37, .tmp 39]) rfl ?_); at_builtin; refine Kd.R_append (Kd.int .i64) (w0 := w) w.heap.size rfl (.tmp 37) (.tmp 39) 25 3 (.int .i64 0) 8 rfl Tryd.underlying25 info3 rfl (by decide) (by omega) (.slice A362_0 (rd_L1 x4_3 x24_3).length c362_0) (rd_L1 x4_3 x24_3) x19_2 [.int .i64 x19_2] (fun k_ => oki19 k_ ∨ ((fun _ => True)) k_ ∧ wr.heap.size ≤ k_) (fun _ => False) rfl rfl ?aP (fun _ hk => hk.elim) ?aF ?aO ?aB ?aS ?aL ?_; (case aP => exact rfl); (case aB => exact (by repeat (first | (with_reducible first | exact HB.out | apply below_alloc | apply pw_below_drewN | apply below_drew1) | exact HB.out))); (case aF => exact (fun k_ hk => .inr ⟨trivial, hk⟩)); (case aO => exact (by (with_reducible repeat (first | apply Kd.R_alloc | apply Kd.R_drewN | apply Kd.R_drew)); exact Kd.R_mono UU19.out (fun _ hk => .inl hk))); (case aS => exact (below_size (by repeat (first | (with_reducible first | exact HB.out | apply below_alloc | apply pw_below_drewN | apply below_drew1) | exact HB.out)))); (case aL => have := LMc17.out; omega); intro v364 w20 ho hb hg hat; rw [← Ny363.out] at ho; have n0_ := Aside0.mk (hb); have n1_ := Aside0.mk (Kd.H_grown (Kd.H_widen (by repeat (first | exact HH19.out | refine Kd.H_alloc ?_ _ | refine Kd.H_drewN ?_ _ | refine Kd.H_drew ?_))) hg (fun k_ e_ => .inl (UU19.out.1 k_ e_))); have n2_ := Aside0.mk (ho); clear HB; clear HH19; clear HO_4; clear UU19; clear HL362_0; have HB := n0_; have HH19 := n1_; have HO365 := n2_; clear n0_ n1_ n2_; clear ho hb hg hat; have p18 : 0 ≤ (x24_3 : Int) := of_decide_eq_true (by first | (with_reducible assumption) | assumption); have q18 : (x24_3 : Int) < ((x4_3.length : Int) : Int) := of_decide_eq_true (by first | (with_reducible assumption) | assumption); replace p18 := eq_true p18; replace q18 := eq_true q18; obtain ⟨Ao23, co23, eo23⟩ := Kd.R_slice HO365.out; subst eo23; obtain ⟨_, _, hraw21, _, _, hcc21, _⟩ := Kd.H_raw HH19.out (of_decide_eq_true (by first | (with_reducible assumption) | assumption)) (by have h_ : (x24_3 : Int) < ((x4_3.length : Int) : Int) := of_decide_eq_true (by first | (with_reducible assumption) | assumption); first | exact h_ | (have e_ := (HN19.out); omega) | simpa using h_); obtain ⟨_, hfr21⟩ := Kd.H_at HH19.out (of_decide_eq_true (by first | (with_reducible assumption) | assumption)) (by have h_ : (x24_3 : Int) < ((x4_3.length : Int) : Int) := of_decide_eq_true (by first | (with_reducible assumption) | assumption); first | exact h_ | (have e_ := (HN19.out); omega) | simpa using h_); have hx21_0 := hcc21 0 _ rfl; have hf21_0 := hfr21 0; (try simp only [Nat.add_zero] at hx21_0 hf21_0); (try rw [show ((Kd.slice 3 (Kd.int .i64))).sz = 1 from rfl, Nat.mul_one] at hx21_0); (try rw [show ((Kd.slice 3 (Kd.int .i64))).sz = 1 from rfl, Nat.mul_one] at hf21_0); have HP21 := Kd.S_seg0 HH19.out (of_decide_eq_true (by first | (with_reducible assumption) | assumption)) (by have h_ : (x24_3 : Int) < ((x4_3.length : Int) : Int) := of_decide_eq_true (by first | (with_reducible assumption) | assumption); first | exact h_ | (have e_ := (HN19.out); omega) | simpa using h_) (seg := [.slice Ao23 y363.length co23]) (j := 0) (show 1 ≤ 1 from by decide) (x' := y363) (Kd.M_row HO365.out) (fun _ hk => hk); (try simp only [show ((Kd.slice 3 (Kd.int .i64))).sz = 1 from rfl, Nat.mul_one, Nat.add_zero] at HP21); clear hcc21 hfr21) | ((with_reducible refine gate_store (t := 25) (p := 41) rfl ?_); refine store_event (t := 25) (p := 41) (v := ?vo_w22) (w1 := (w20.setCell ⟨go19, (x24_3 : Int).toNat, none⟩ (.slice Ao23 y363.length co23))) ?hg ?ho ?hn ?hr ?_; (case ho => rfl); (case hg => rfl); (case hn => rfl); (case hr => first | (go_simp; done) | (go_simp; rfl)); intro w22 hw; have hg : w20.grownBy w22 (some go19) := (by rw [hw]; exact HP21.2); have hp_ : Kd.S (Kd.slice 3 (Kd.int .i64)) 25 w22 w.heap.size (fun _ => True) (.slice (some ⟨go19, 0, none⟩) x4_3.length co11) y366 := (by rw [hw, Ny366.out]; exact HP21.1); clear HP21; have n0_ := Aside0.mk ((by rw [hw]; exact below_set HB.out GB19.out : Below w.heap.size w w22)); have n1_ := Aside0.mk (hp_); clear HB; clear HO365; clear HH19; have HB := n0_; have HO_4 := n1_; clear n0_ n1_; clear hg hw hp_ hraw21))
                                (try simp only [← hl4_3])
                                go_roundg k3
                                case measure => have := HJ1.out; have := HK2.out; have := HK3.out; omega
                                case rel => exact ⟨(y366), (wrap64 (x24_3 + 1)), (by first | rfl | (simp; done) | (simp [*]; done)), H', ⟨by have := HJ1.out; have := HK2.out; have := HK3.out; omega⟩, ⟨by (try simp only [hl4_3]); (with_reducible repeat (first | apply Kd.S_alloc | apply Kd.S_drewN | apply Kd.S_drew)); first | exact HO_4.out | exact Kd.R_mono HO_4.out (fun k_ h_ => ne_own_len h_)⟩, ⟨by repeat (first | (with_reducible first | exact HB.out | apply below_alloc | apply pw_below_drewN | apply below_drew1) | exact HB.out)⟩⟩
                              · rw [if_neg c17] at H
                                exact absurd H (by simp)
                            · rw [if_neg c16] at H
                              exact absurd H (by simp)
                        · rw [if_neg c13] at H
                          exact absurd H (by simp)
                      · rw [if_neg c12] at H
                        have c12b0 : decide (x24_3 < (x4_2.length : Int)) = false := decide_eq_false c12
                        (try (have c12h := c12b0; simp only [hl4_3] at c12h))
                        clear c12
                        have H' := Aside0.mk H
                        clear H
                        go_wp2
                        (try simp only [← hl4_3])
                        go_roundg k3
                        case measure => have := HJ1.out; have := HK2.out; have := HK3.out; omega
                        case rel => exact ⟨(x4_3), (wrap64 (x19_2 + 1)), (by first | rfl | (simp; done) | (simp [*]; done)), H', ⟨by have := HJ1.out; have := HK2.out; have := HK3.out; omega⟩, ⟨by (try simp only [hl4_3]); (with_reducible repeat (first | apply Kd.S_alloc | apply Kd.S_drewN | apply Kd.S_drew)); first | exact HO_4.out | exact Kd.R_mono HO_4.out (fun k_ h_ => ne_own_len h_)⟩, ⟨by repeat (first | (with_reducible first | exact HB.out | apply below_alloc | apply pw_below_drewN | apply below_drew1) | exact HB.out)⟩⟩
                · rw [if_neg c10] at H
                  have c10b0 : decide (x19_2 < a0) = false := decide_eq_false c10
                  clear c10
                  simp only [Option.some.injEq, Prod.mk.injEq] at H
                  obtain ⟨rfl, rfl⟩ := H
                  go_wp2
                  go_ret2
                  exact ⟨_, by first | rfl | (simp [errW_none, errW_some] <;> rfl) | (simp [*, errW_none, errW_some] <;> rfl), by (with_reducible repeat (first | apply Kd.S_alloc | apply Kd.S_drewN | apply Kd.S_drew)); exact HO_4.out, by repeat (first | (with_reducible first | exact HB.out | apply below_alloc | apply pw_below_drewN | apply below_drew1) | exact HB.out)⟩
          · rw [if_neg c7] at H
            exact absurd H (by simp)
        · rw [if_neg c6] at H
          exact absurd H (by simp)

end Go.Proofs.YtglajokjiphafaaDoor.P

namespace Go.Proofs.YtglajokjiphafaaDoor.P
open Go.RowKit Go.Proofs.YtglajokjiphafaaDoorW.PrintWords Go.Proofs.YtglajokjiphafaaDoorW.PrintLast Go.Proofs.YtglajokjiphafaaDoorW.PrintMore
attribute [local go_sem] max2_int min2_int max_two min_two max_three min_three max_four min_four   -- for this text's walks alone
set_option linter.unusedVariables false
set_option linter.unusedSimpArgs false

/-! ### neonwrightref05_Kautz: function 33 -/
mutual
def neonwrightref05_Kautz.j0 : Nat → Int → Int → Int → Bool → Option ((List (List Int)) × Int)
  | 0, _, _, _, _ => none
  | k + 1, x0, x1, x2, x49 => if x49 = true then (some (([] : List (List Int)), 2)) else (if x1 = 2 then (neonwrightref05_Kautz.j1 k x0 x2 (wrap64 (x0 * x0))) else (neonwrightref05_Kautz.j1 k x0 x2 x0))
def neonwrightref05_Kautz.j1 : Nat → Int → Int → Int → Option ((List (List Int)) × Int)
  | 0, _, _, _ => none
  | k + 1, x0, x2, x8 => if 0 ≤ (wrap64 (x0 * x2)) then (if (wrap64 (x0 * x2) : Int).toNat ≤ 11728124029610 then (neonwrightref05_Kautz.l0 k x0 x2 x8 (List.replicate (wrap64 (x0 * x2) : Int).toNat []) 0) else (none)) else (none)
def neonwrightref05_Kautz.l0 : Nat → Int → Int → Int → List (List Int) → Int → Option ((List (List Int)) × Int)
  | 0, _, _, _, _, _ => none
  | k + 1, x0, x2, x8, x9, x10 => if x10 < x2 then (neonwrightref05_Kautz.l1 k x0 x2 x8 x9 x10 0) else (some (x9, 0))
def neonwrightref05_Kautz.l1 : Nat → Int → Int → Int → List (List Int) → Int → Int → Option ((List (List Int)) × Int)
  | 0, _, _, _, _, _, _ => none
  | k + 1, x0, x2, x8, x9, x10, x11 => if x11 < x8 then (if x0 = 0 then (none) else (if 0 ≤ (wrap64 ((wrap64 (x10 * x0)) + (Int.tmod (wrap64 ((Int.tmod x11 x0) + (wrap64 ((wrap64 (Int.tdiv x11 x0)) * x10)))) x0))) then (if (wrap64 ((wrap64 (x10 * x0)) + (Int.tmod (wrap64 ((Int.tmod x11 x0) + (wrap64 ((wrap64 (Int.tdiv x11 x0)) * x10)))) x0))) < (x9.length : Int) then (if (rd_L1 x9 (wrap64 ((wrap64 (x10 * x0)) + (Int.tmod (wrap64 ((Int.tmod x11 x0) + (wrap64 ((wrap64 (Int.tdiv x11 x0)) * x10)))) x0)))).length < 17592186044416 then (neonwrightref05_Kautz.l1 k x0 x2 x8 (x9.set ((wrap64 ((wrap64 (x10 * x0)) + (Int.tmod (wrap64 ((Int.tmod x11 x0) + (wrap64 ((wrap64 (Int.tdiv x11 x0)) * x10)))) x0))) : Int).toNat ((rd_L1 x9 (wrap64 ((wrap64 (x10 * x0)) + (Int.tmod (wrap64 ((Int.tmod x11 x0) + (wrap64 ((wrap64 (Int.tdiv x11 x0)) * x10)))) x0)))) ++ [x11])) x10 (wrap64 (x11 + 1))) else (none)) else (none)) else (none))) else (neonwrightref05_Kautz.l0 k x0 x2 x8 x9 (wrap64 (x10 + 1)))
end
def neonwrightref05_Kautz.f (k : Nat) (a0 : Int) (a1 : Int) (a2 : Int) : Option ((List (List Int)) × Int) := if a0 = 2 then (if a1 < 1 then (neonwrightref05_Kautz.j0 k a0 a1 a2 true) else (if a1 > 2 then (neonwrightref05_Kautz.j0 k a0 a1 a2 true) else (if a2 < 1 then (neonwrightref05_Kautz.j0 k a0 a1 a2 true) else (if a2 > a0 then (neonwrightref05_Kautz.j0 k a0 a1 a2 true) else (neonwrightref05_Kautz.j0 k a0 a1 a2 (decide ((wrap64 (a0 * a2)) > 60))))))) else (if a0 = 3 then (if a1 < 1 then (neonwrightref05_Kautz.j0 k a0 a1 a2 true) else (if a1 > 2 then (neonwrightref05_Kautz.j0 k a0 a1 a2 true) else (if a2 < 1 then (neonwrightref05_Kautz.j0 k a0 a1 a2 true) else (if a2 > a0 then (neonwrightref05_Kautz.j0 k a0 a1 a2 true) else (neonwrightref05_Kautz.j0 k a0 a1 a2 (decide ((wrap64 (a0 * a2)) > 60))))))) else (if a0 = 5 then (if a1 < 1 then (neonwrightref05_Kautz.j0 k a0 a1 a2 true) else (if a1 > 2 then (neonwrightref05_Kautz.j0 k a0 a1 a2 true) else (if a2 < 1 then (neonwrightref05_Kautz.j0 k a0 a1 a2 true) else (if a2 > a0 then (neonwrightref05_Kautz.j0 k a0 a1 a2 true) else (neonwrightref05_Kautz.j0 k a0 a1 a2 (decide ((wrap64 (a0 * a2)) > 60))))))) else (if a0 = 7 then (if a1 < 1 then (neonwrightref05_Kautz.j0 k a0 a1 a2 true) else (if a1 > 2 then (neonwrightref05_Kautz.j0 k a0 a1 a2 true) else (if a2 < 1 then (neonwrightref05_Kautz.j0 k a0 a1 a2 true) else (if a2 > a0 then (neonwrightref05_Kautz.j0 k a0 a1 a2 true) else (neonwrightref05_Kautz.j0 k a0 a1 a2 (decide ((wrap64 (a0 * a2)) > 60))))))) else (neonwrightref05_Kautz.j0 k a0 a1 a2 true))))
theorem neonwrightref05_Kautz.mono_l : ∀ k, (∀ y0 y1 y2 y3, LeO (neonwrightref05_Kautz.j0 k y0 y1 y2 y3) (neonwrightref05_Kautz.j0 (k + 1) y0 y1 y2 y3)) ∧ (∀ y0 y1 y2, LeO (neonwrightref05_Kautz.j1 k y0 y1 y2) (neonwrightref05_Kautz.j1 (k + 1) y0 y1 y2)) ∧ (∀ y0 y1 y2 y3 y4, LeO (neonwrightref05_Kautz.l0 k y0 y1 y2 y3 y4) (neonwrightref05_Kautz.l0 (k + 1) y0 y1 y2 y3 y4)) ∧ (∀ y0 y1 y2 y3 y4 y5, LeO (neonwrightref05_Kautz.l1 k y0 y1 y2 y3 y4 y5) (neonwrightref05_Kautz.l1 (k + 1) y0 y1 y2 y3 y4 y5))
  | 0 => ⟨fun _ _ _ _ r h => by simp [neonwrightref05_Kautz.j0] at h, fun _ _ _ r h => by simp [neonwrightref05_Kautz.j1] at h, fun _ _ _ _ _ r h => by simp [neonwrightref05_Kautz.l0] at h, fun _ _ _ _ _ _ r h => by simp [neonwrightref05_Kautz.l1] at h⟩
  | k + 1 => by
    obtain ⟨ih0, ih1, ih2, ih3⟩ := neonwrightref05_Kautz.mono_l k
    refine ⟨?_, ?_, ?_, ?_⟩
    · intro y0 y1 y2 y3
      unfold neonwrightref05_Kautz.j0
      repeat' first
      | (with_reducible exact ih0 _ _ _ _)
      | (with_reducible exact ih1 _ _ _)
      | (with_reducible exact ih2 _ _ _ _ _)
      | (with_reducible exact ih3 _ _ _ _ _ _)
      | (with_reducible exact LeO.refl _)
      | (with_reducible exact LeO.none _)
      | (with_reducible refine LeO.ite ?_ ?_)
      | (with_reducible refine LeO.bind ?_ (fun _ => ?_))
      | exact ih0 _ _ _ _
      | exact ih1 _ _ _
      | exact ih2 _ _ _ _ _
      | exact ih3 _ _ _ _ _ _
      | exact LeO.none _
      | refine LeO.ite ?_ ?_
      | refine LeO.bind ?_ (fun _ => ?_)
    · intro y0 y1 y2
      unfold neonwrightref05_Kautz.j1
      repeat' first
      | (with_reducible exact ih0 _ _ _ _)
      | (with_reducible exact ih1 _ _ _)
      | (with_reducible exact ih2 _ _ _ _ _)
      | (with_reducible exact ih3 _ _ _ _ _ _)
      | (with_reducible exact LeO.refl _)
      | (with_reducible exact LeO.none _)
      | (with_reducible refine LeO.ite ?_ ?_)
      | (with_reducible refine LeO.bind ?_ (fun _ => ?_))
      | exact ih0 _ _ _ _
      | exact ih1 _ _ _
      | exact ih2 _ _ _ _ _
      | exact ih3 _ _ _ _ _ _
      | exact LeO.none _
      | refine LeO.ite ?_ ?_
      | refine LeO.bind ?_ (fun _ => ?_)
    · intro y0 y1 y2 y3 y4
      unfold neonwrightref05_Kautz.l0
      repeat' first
      | (with_reducible exact ih0 _ _ _ _)
      | (with_reducible exact ih1 _ _ _)
      | (with_reducible exact ih2 _ _ _ _ _)
      | (with_reducible exact ih3 _ _ _ _ _ _)
      | (with_reducible exact LeO.refl _)
      | (with_reducible exact LeO.none _)
      | (with_reducible refine LeO.ite ?_ ?_)
      | (with_reducible refine LeO.bind ?_ (fun _ => ?_))
      | exact ih0 _ _ _ _
      | exact ih1 _ _ _
      | exact ih2 _ _ _ _ _
      | exact ih3 _ _ _ _ _ _
      | exact LeO.none _
      | refine LeO.ite ?_ ?_
      | refine LeO.bind ?_ (fun _ => ?_)
    · intro y0 y1 y2 y3 y4 y5
      unfold neonwrightref05_Kautz.l1
      repeat' first
      | (with_reducible exact ih0 _ _ _ _)
      | (with_reducible exact ih1 _ _ _)
      | (with_reducible exact ih2 _ _ _ _ _)
      | (with_reducible exact ih3 _ _ _ _ _ _)
      | (with_reducible exact LeO.refl _)
      | (with_reducible exact LeO.none _)
      | (with_reducible refine LeO.ite ?_ ?_)
      | (with_reducible refine LeO.bind ?_ (fun _ => ?_))
      | exact ih0 _ _ _ _
      | exact ih1 _ _ _
      | exact ih2 _ _ _ _ _
      | exact ih3 _ _ _ _ _ _
      | exact LeO.none _
      | refine LeO.ite ?_ ?_
      | refine LeO.bind ?_ (fun _ => ?_)
theorem neonwrightref05_Kautz.mono : ∀ a0 a1 a2 k, LeO (neonwrightref05_Kautz.f k a0 a1 a2) (neonwrightref05_Kautz.f (k + 1) a0 a1 a2) := by
  intro a0 a1 a2 k
  obtain ⟨ih0, ih1, ih2, ih3⟩ := neonwrightref05_Kautz.mono_l k
  unfold neonwrightref05_Kautz.f
  repeat' first
      | (with_reducible exact ih0 _ _ _ _)
      | (with_reducible exact ih1 _ _ _)
      | (with_reducible exact ih2 _ _ _ _ _)
      | (with_reducible exact ih3 _ _ _ _ _ _)
      | (with_reducible exact LeO.refl _)
      | (with_reducible exact LeO.none _)
      | (with_reducible refine LeO.ite ?_ ?_)
      | (with_reducible refine LeO.bind ?_ (fun _ => ?_))
      | exact ih0 _ _ _ _
      | exact ih1 _ _ _
      | exact ih2 _ _ _ _ _
      | exact ih3 _ _ _ _ _ _
      | exact LeO.none _
      | refine LeO.ite ?_ ?_
      | refine LeO.bind ?_ (fun _ => ?_)
set_option maxHeartbeats 8000000 in
set_option maxRecDepth 100000 in
theorem neonwrightref05_Kautz.calls (k : Nat) (a0 : Int) (a1 : Int) (a2 : Int) (r1 : List (List Int)) (r2 : Int) (w : World) (h : neonwrightref05_Kautz.f k a0 a1 a2 = some (r1, r2)) :
    Calls Tryd.prog 33 #[.int .i64 a0, .int .i64 a1, .int .i64 a2] w fun e w' => ∃ v0_ : Value, e = .returned (.tuple #[v0_, .int .i64 r2]) ∧ Kd.S (Kd.slice 3 (Kd.int .i64)) 25 w' w.heap.size (fun _ => True) v0_ r1 ∧ Below w.heap.size w w' := by
  have HB := Aside0.mk (Below.refl w.heap.size w)
  have H : (if a0 = 2 then (if a1 < 1 then (neonwrightref05_Kautz.j0 k a0 a1 a2 true) else (if a1 > 2 then (neonwrightref05_Kautz.j0 k a0 a1 a2 true) else (if a2 < 1 then (neonwrightref05_Kautz.j0 k a0 a1 a2 true) else (if a2 > a0 then (neonwrightref05_Kautz.j0 k a0 a1 a2 true) else (neonwrightref05_Kautz.j0 k a0 a1 a2 (decide ((wrap64 (a0 * a2)) > 60))))))) else (if a0 = 3 then (if a1 < 1 then (neonwrightref05_Kautz.j0 k a0 a1 a2 true) else (if a1 > 2 then (neonwrightref05_Kautz.j0 k a0 a1 a2 true) else (if a2 < 1 then (neonwrightref05_Kautz.j0 k a0 a1 a2 true) else (if a2 > a0 then (neonwrightref05_Kautz.j0 k a0 a1 a2 true) else (neonwrightref05_Kautz.j0 k a0 a1 a2 (decide ((wrap64 (a0 * a2)) > 60))))))) else (if a0 = 5 then (if a1 < 1 then (neonwrightref05_Kautz.j0 k a0 a1 a2 true) else (if a1 > 2 then (neonwrightref05_Kautz.j0 k a0 a1 a2 true) else (if a2 < 1 then (neonwrightref05_Kautz.j0 k a0 a1 a2 true) else (if a2 > a0 then (neonwrightref05_Kautz.j0 k a0 a1 a2 true) else (neonwrightref05_Kautz.j0 k a0 a1 a2 (decide ((wrap64 (a0 * a2)) > 60))))))) else (if a0 = 7 then (if a1 < 1 then (neonwrightref05_Kautz.j0 k a0 a1 a2 true) else (if a1 > 2 then (neonwrightref05_Kautz.j0 k a0 a1 a2 true) else (if a2 < 1 then (neonwrightref05_Kautz.j0 k a0 a1 a2 true) else (if a2 > a0 then (neonwrightref05_Kautz.j0 k a0 a1 a2 true) else (neonwrightref05_Kautz.j0 k a0 a1 a2 (decide ((wrap64 (a0 * a2)) > 60))))))) else (neonwrightref05_Kautz.j0 k a0 a1 a2 true))))) = some (r1, r2) := h
  clear h
  have HC4 := Aside0.mk H
  clear H
  go_enter Tryd.func33, Tryd.ntmps33
  go_upto_region 1 with (fail)
  repeat (go_quiet (fail); go_upto_region 1 with (fail))
  go_cut [49] (fun v49 wc => ∃ (kq : Nat) (x49_3 : Bool), v49 = .bool x49_3 ∧ Aside0 (neonwrightref05_Kautz.j0 kq a0 a1 a2 x49_3 = some (r1, r2)) ∧ Aside0 (kq ≤ k) ∧ Aside0 (Below w.heap.size w wc))
  case first =>
    have H := HC4.out
    clear HC4
    by_cases c5 : a0 = 2
    · rw [if_pos c5] at H
      have c5b0 : (a0 == 2) = true := beq_iff_eq.mpr c5
      have c5b1 : (a0 != 2) = false := bne_eq_false_iff_eq.mpr c5
      clear c5
      (first | rw [c5b0] | (simp only [i64_w, i32_w]; rw [c5b0]) | skip)
      by_cases c6 : a1 < 1
      · rw [if_pos c6] at H
        have c6b0 : decide (a1 < 1) = true := decide_eq_true c6
        clear c6
        have H' := Aside0.mk H
        clear H
        go_wp2
        repeat (go_quiet (fail); try go_wp2)
        go_meet
        case rel => exact ⟨_, (true), (by first | rfl | (simp; done) | (simp [*]; done)), H', ⟨by first | omega | exact Nat.le_refl _⟩, ⟨by repeat (first | (with_reducible first | exact HB.out | apply below_alloc | apply pw_below_drewN | apply below_drew1) | exact HB.out)⟩⟩
      · rw [if_neg c6] at H
        have c6b0 : decide (a1 < 1) = false := decide_eq_false c6
        clear c6
        by_cases c7 : a1 > 2
        · rw [if_pos c7] at H
          have c7b0 : decide (2 < a1) = true := decide_eq_true c7
          clear c7
          have H' := Aside0.mk H
          clear H
          go_wp2
          repeat (go_quiet (fail); try go_wp2)
          go_meet
          case rel => exact ⟨_, (true), (by first | rfl | (simp; done) | (simp [*]; done)), H', ⟨by first | omega | exact Nat.le_refl _⟩, ⟨by repeat (first | (with_reducible first | exact HB.out | apply below_alloc | apply pw_below_drewN | apply below_drew1) | exact HB.out)⟩⟩
        · rw [if_neg c7] at H
          have c7b0 : decide (2 < a1) = false := decide_eq_false c7
          clear c7
          by_cases c8 : a2 < 1
          · rw [if_pos c8] at H
            have c8b0 : decide (a2 < 1) = true := decide_eq_true c8
            clear c8
            have H' := Aside0.mk H
            clear H
            go_wp2
            repeat (go_quiet (fail); try go_wp2)
            go_meet
            case rel => exact ⟨_, (true), (by first | rfl | (simp; done) | (simp [*]; done)), H', ⟨by first | omega | exact Nat.le_refl _⟩, ⟨by repeat (first | (with_reducible first | exact HB.out | apply below_alloc | apply pw_below_drewN | apply below_drew1) | exact HB.out)⟩⟩
          · rw [if_neg c8] at H
            have c8b0 : decide (a2 < 1) = false := decide_eq_false c8
            clear c8
            by_cases c9 : a2 > a0
            · rw [if_pos c9] at H
              have c9b0 : decide (a0 < a2) = true := decide_eq_true c9
              clear c9
              have H' := Aside0.mk H
              clear H
              go_wp2
              repeat (go_quiet (fail); try go_wp2)
              go_meet
              case rel => exact ⟨_, (true), (by first | rfl | (simp; done) | (simp [*]; done)), H', ⟨by first | omega | exact Nat.le_refl _⟩, ⟨by repeat (first | (with_reducible first | exact HB.out | apply below_alloc | apply pw_below_drewN | apply below_drew1) | exact HB.out)⟩⟩
            · rw [if_neg c9] at H
              have c9b0 : decide (a0 < a2) = false := decide_eq_false c9
              clear c9
              have H' := Aside0.mk H
              clear H
              go_wp2
              repeat (go_quiet (fail); try go_wp2)
              go_meet
              case rel => exact ⟨_, (decide ((wrap64 (a0 * a2)) > 60)), (by first | rfl | (simp; done) | (simp [*]; done)), H', ⟨by first | omega | exact Nat.le_refl _⟩, ⟨by repeat (first | (with_reducible first | exact HB.out | apply below_alloc | apply pw_below_drewN | apply below_drew1) | exact HB.out)⟩⟩
    · rw [if_neg c5] at H
      have c5b0 : (a0 == 2) = false := beq_eq_false_iff_ne.mpr c5
      have c5b1 : (a0 != 2) = true := bne_iff_ne.mpr c5
      (first | rw [c5b0] | (simp only [i64_w, i32_w]; rw [c5b0]) | skip)
      by_cases c10 : a0 = 3
      · rw [if_pos c10] at H
        have c10b0 : (a0 == 3) = true := beq_iff_eq.mpr c10
        have c10b1 : (a0 != 3) = false := bne_eq_false_iff_eq.mpr c10
        clear c10
        by_cases c11 : a1 < 1
        · rw [if_pos c11] at H
          have c11b0 : decide (a1 < 1) = true := decide_eq_true c11
          clear c11
          have H' := Aside0.mk H
          clear H
          go_wp2
          repeat (go_quiet (fail); try go_wp2)
          go_meet
          case rel => exact ⟨_, (true), (by first | rfl | (simp; done) | (simp [*]; done)), H', ⟨by first | omega | exact Nat.le_refl _⟩, ⟨by repeat (first | (with_reducible first | exact HB.out | apply below_alloc | apply pw_below_drewN | apply below_drew1) | exact HB.out)⟩⟩
        · rw [if_neg c11] at H
          have c11b0 : decide (a1 < 1) = false := decide_eq_false c11
          clear c11
          by_cases c12 : a1 > 2
          · rw [if_pos c12] at H
            have c12b0 : decide (2 < a1) = true := decide_eq_true c12
            clear c12
            have H' := Aside0.mk H
            clear H
            go_wp2
            repeat (go_quiet (fail); try go_wp2)
            go_meet
            case rel => exact ⟨_, (true), (by first | rfl | (simp; done) | (simp [*]; done)), H', ⟨by first | omega | exact Nat.le_refl _⟩, ⟨by repeat (first | (with_reducible first | exact HB.out | apply below_alloc | apply pw_below_drewN | apply below_drew1) | exact HB.out)⟩⟩
          · rw [if_neg c12] at H
            have c12b0 : decide (2 < a1) = false := decide_eq_false c12
            clear c12
            by_cases c13 : a2 < 1
            · rw [if_pos c13] at H
              have c13b0 : decide (a2 < 1) = true := decide_eq_true c13
              clear c13
              have H' := Aside0.mk H
              clear H
              go_wp2
              repeat (go_quiet (fail); try go_wp2)
              go_meet
              case rel => exact ⟨_, (true), (by first | rfl | (simp; done) | (simp [*]; done)), H', ⟨by first | omega | exact Nat.le_refl _⟩, ⟨by repeat (first | (with_reducible first | exact HB.out | apply below_alloc | apply pw_below_drewN | apply below_drew1) | exact HB.out)⟩⟩
            · rw [if_neg c13] at H
              have c13b0 : decide (a2 < 1) = false := decide_eq_false c13
              clear c13
              by_cases c14 : a2 > a0
              · rw [if_pos c14] at H
                have c14b0 : decide (a0 < a2) = true := decide_eq_true c14
                clear c14
                have H' := Aside0.mk H
                clear H
                go_wp2
                repeat (go_quiet (fail); try go_wp2)
                go_meet
                case rel => exact ⟨_, (true), (by first | rfl | (simp; done) | (simp [*]; done)), H', ⟨by first | omega | exact Nat.le_refl _⟩, ⟨by repeat (first | (with_reducible first | exact HB.out | apply below_alloc | apply pw_below_drewN | apply below_drew1) | exact HB.out)⟩⟩
              · rw [if_neg c14] at H
                have c14b0 : decide (a0 < a2) = false := decide_eq_false c14
                clear c14
                have H' := Aside0.mk H
                clear H
                go_wp2
                repeat (go_quiet (fail); try go_wp2)
                go_meet
                case rel => exact ⟨_, (decide ((wrap64 (a0 * a2)) > 60)), (by first | rfl | (simp; done) | (simp [*]; done)), H', ⟨by first | omega | exact Nat.le_refl _⟩, ⟨by repeat (first | (with_reducible first | exact HB.out | apply below_alloc | apply pw_below_drewN | apply below_drew1) | exact HB.out)⟩⟩
      · rw [if_neg c10] at H
        have c10b0 : (a0 == 3) = false := beq_eq_false_iff_ne.mpr c10
        have c10b1 : (a0 != 3) = true := bne_iff_ne.mpr c10
        by_cases c15 : a0 = 5
        · rw [if_pos c15] at H
          have c15b0 : (a0 == 5) = true := beq_iff_eq.mpr c15
          have c15b1 : (a0 != 5) = false := bne_eq_false_iff_eq.mpr c15
          clear c15
          by_cases c16 : a1 < 1
          · rw [if_pos c16] at H
            have c16b0 : decide (a1 < 1) = true := decide_eq_true c16
            clear c16
            have H' := Aside0.mk H
            clear H
            go_wp2
            repeat (go_quiet (fail); try go_wp2)
            go_meet
            case rel => exact ⟨_, (true), (by first | rfl | (simp; done) | (simp [*]; done)), H', ⟨by first | omega | exact Nat.le_refl _⟩, ⟨by repeat (first | (with_reducible first | exact HB.out | apply below_alloc | apply pw_below_drewN | apply below_drew1) | exact HB.out)⟩⟩
          · rw [if_neg c16] at H
            have c16b0 : decide (a1 < 1) = false := decide_eq_false c16
            clear c16
            by_cases c17 : a1 > 2
            · rw [if_pos c17] at H
              have c17b0 : decide (2 < a1) = true := decide_eq_true c17
              clear c17
              have H' := Aside0.mk H
              clear H
              go_wp2
              repeat (go_quiet (fail); try go_wp2)
              go_meet
              case rel => exact ⟨_, (true), (by first | rfl | (simp; done) | (simp [*]; done)), H', ⟨by first | omega | exact Nat.le_refl _⟩, ⟨by repeat (first | (with_reducible first | exact HB.out | apply below_alloc | apply pw_below_drewN | apply below_drew1) | exact HB.out)⟩⟩
            · rw [if_neg c17] at H
              have c17b0 : decide (2 < a1) = false := decide_eq_false c17
              clear c17
              by_cases c18 : a2 < 1
              · rw [if_pos c18] at H
                have c18b0 : decide (a2 < 1) = true := decide_eq_true c18
                clear c18
                have H' := Aside0.mk H
                clear H
                go_wp2
                repeat (go_quiet (fail); try go_wp2)
                go_meet
                case rel => exact ⟨_, (true), (by first | rfl | (simp; done) | (simp [*]; done)), H', ⟨by first | omega | exact Nat.le_refl _⟩, ⟨by repeat (first | (with_reducible first | exact HB.out | apply below_alloc | apply pw_below_drewN | apply below_drew1) | exact HB.out)⟩⟩
              · rw [if_neg c18] at H
                have c18b0 : decide (a2 < 1) = false := decide_eq_false c18
                clear c18
                by_cases c19 : a2 > a0
                · rw [if_pos c19] at H
                  have c19b0 : decide (a0 < a2) = true := decide_eq_true c19
                  clear c19
                  have H' := Aside0.mk H
                  clear H
                  go_wp2
                  repeat (go_quiet (fail); try go_wp2)
                  go_meet
                  case rel => exact ⟨_, (true), (by first | rfl | (simp; done) | (simp [*]; done)), H', ⟨by first | omega | exact Nat.le_refl _⟩, ⟨by repeat (first | (with_reducible first | exact HB.out | apply below_alloc | apply pw_below_drewN | apply below_drew1) | exact HB.out)⟩⟩
                · rw [if_neg c19] at H
                  have c19b0 : decide (a0 < a2) = false := decide_eq_false c19
                  clear c19
                  have H' := Aside0.mk H
                  clear H
                  go_wp2
                  repeat (go_quiet (fail); try go_wp2)
                  go_meet
                  case rel => exact ⟨_, (decide ((wrap64 (a0 * a2)) > 60)), (by first | rfl | (simp; done) | (simp [*]; done)), H', ⟨by first | omega | exact Nat.le_refl _⟩, ⟨by repeat (first | (with_reducible first | exact HB.out | apply below_alloc | apply pw_below_drewN | apply below_drew1) | exact HB.out)⟩⟩
        · rw [if_neg c15] at H
          have c15b0 : (a0 == 5) = false := beq_eq_false_iff_ne.mpr c15
          have c15b1 : (a0 != 5) = true := bne_iff_ne.mpr c15
          by_cases c20 : a0 = 7
          · rw [if_pos c20] at H
            have c20b0 : (a0 == 7) = true := beq_iff_eq.mpr c20
            have c20b1 : (a0 != 7) = false := bne_eq_false_iff_eq.mpr c20
            clear c20
            by_cases c21 : a1 < 1
            · rw [if_pos c21] at H
              have c21b0 : decide (a1 < 1) = true := decide_eq_true c21
              clear c21
              have H' := Aside0.mk H
              clear H
              go_wp2
              repeat (go_quiet (fail); try go_wp2)
              go_meet
              case rel => exact ⟨_, (true), (by first | rfl | (simp; done) | (simp [*]; done)), H', ⟨by first | omega | exact Nat.le_refl _⟩, ⟨by repeat (first | (with_reducible first | exact HB.out | apply below_alloc | apply pw_below_drewN | apply below_drew1) | exact HB.out)⟩⟩
            · rw [if_neg c21] at H
              have c21b0 : decide (a1 < 1) = false := decide_eq_false c21
              clear c21
              by_cases c22 : a1 > 2
              · rw [if_pos c22] at H
                have c22b0 : decide (2 < a1) = true := decide_eq_true c22
                clear c22
                have H' := Aside0.mk H
                clear H
                go_wp2
                repeat (go_quiet (fail); try go_wp2)
                go_meet
                case rel => exact ⟨_, (true), (by first | rfl | (simp; done) | (simp [*]; done)), H', ⟨by first | omega | exact Nat.le_refl _⟩, ⟨by repeat (first | (with_reducible first | exact HB.out | apply below_alloc | apply pw_below_drewN | apply below_drew1) | exact HB.out)⟩⟩
              · rw [if_neg c22] at H
                have c22b0 : decide (2 < a1) = false := decide_eq_false c22
                clear c22
                by_cases c23 : a2 < 1
                · rw [if_pos c23] at H
                  have c23b0 : decide (a2 < 1) = true := decide_eq_true c23
                  clear c23
                  have H' := Aside0.mk H
                  clear H
                  go_wp2
                  repeat (go_quiet (fail); try go_wp2)
                  go_meet
                  case rel => exact ⟨_, (true), (by first | rfl | (simp; done) | (simp [*]; done)), H', ⟨by first | omega | exact Nat.le_refl _⟩, ⟨by repeat (first | (with_reducible first | exact HB.out | apply below_alloc | apply pw_below_drewN | apply below_drew1) | exact HB.out)⟩⟩
                · rw [if_neg c23] at H
                  have c23b0 : decide (a2 < 1) = false := decide_eq_false c23
                  clear c23
                  by_cases c24 : a2 > a0
                  · rw [if_pos c24] at H
                    have c24b0 : decide (a0 < a2) = true := decide_eq_true c24
                    clear c24
                    have H' := Aside0.mk H
                    clear H
                    go_wp2
                    repeat (go_quiet (fail); try go_wp2)
                    go_meet
                    case rel => exact ⟨_, (true), (by first | rfl | (simp; done) | (simp [*]; done)), H', ⟨by first | omega | exact Nat.le_refl _⟩, ⟨by repeat (first | (with_reducible first | exact HB.out | apply below_alloc | apply pw_below_drewN | apply below_drew1) | exact HB.out)⟩⟩
                  · rw [if_neg c24] at H
                    have c24b0 : decide (a0 < a2) = false := decide_eq_false c24
                    clear c24
                    have H' := Aside0.mk H
                    clear H
                    go_wp2
                    repeat (go_quiet (fail); try go_wp2)
                    go_meet
                    case rel => exact ⟨_, (decide ((wrap64 (a0 * a2)) > 60)), (by first | rfl | (simp; done) | (simp [*]; done)), H', ⟨by first | omega | exact Nat.le_refl _⟩, ⟨by repeat (first | (with_reducible first | exact HB.out | apply below_alloc | apply pw_below_drewN | apply below_drew1) | exact HB.out)⟩⟩
          · rw [if_neg c20] at H
            have c20b0 : (a0 == 7) = false := beq_eq_false_iff_ne.mpr c20
            have c20b1 : (a0 != 7) = true := bne_iff_ne.mpr c20
            have H' := Aside0.mk H
            clear H
            go_wp2
            repeat (go_quiet (fail); try go_wp2)
            go_meet
            case rel => exact ⟨_, (true), (by first | rfl | (simp; done) | (simp [*]; done)), H', ⟨by first | omega | exact Nat.le_refl _⟩, ⟨by repeat (first | (with_reducible first | exact HB.out | apply below_alloc | apply pw_below_drewN | apply below_drew1) | exact HB.out)⟩⟩
  case rest =>
    clear HC4
    try clear c1
    try clear c2
    try clear p2
    try clear c3
    try clear c5
    try clear c5b0
    try clear c5b1
    try clear c6
    try clear c6b0
    try clear p6
    try clear c7
    try clear c7b0
    try clear c8
    try clear c8b0
    try clear c9
    try clear c9b0
    try clear c10
    try clear c10b0
    try clear c10b1
    try clear c11
    try clear c11b0
    try clear c12
    try clear c12b0
    try clear c13
    try clear c13b0
    try clear c14
    try clear c14b0
    try clear c15
    try clear c15b0
    try clear c15b1
    try clear c16
    try clear c16b0
    try clear c17
    try clear c17b0
    try clear c18
    try clear c18b0
    try clear c19
    try clear c19b0
    try clear c20
    try clear c20b0
    try clear c20b1
    try clear c21
    try clear c21b0
    try clear c22
    try clear c22b0
    try clear c23
    try clear c23b0
    try clear c24
    try clear c24b0
    obtain ⟨kq, x49_3, rfl, HA, HJ3, HB⟩ := hcut
    cases kq with
    | zero => exact absurd HA.out (by simp [neonwrightref05_Kautz.j0])
    | succ kj3 =>
      have H := HA.out
      clear HA
      simp only [neonwrightref05_Kautz.j0] at H
      by_cases c25 : x49_3 = true
      · subst c25
        have H1 : (some (([] : List (List Int)), 2)) = some (r1, r2) := by rw [if_pos rfl] at H; exact H
        clear H
        have H := H1
        clear H1
        simp only [Option.some.injEq, Prod.mk.injEq] at H
        obtain ⟨rfl, rfl⟩ := H
        go_wp2
        repeat (go_quiet (fail); try go_wp2)
        go_ret2
        exact ⟨_, by first | rfl | (simp [errW_none, errW_some] <;> rfl) | (simp [*, errW_none, errW_some] <;> rfl), by first | exact Kd.S_nil _ _ _ _ _ | exact Kd.N_nil _ _ _ _ _ | exact Kd.V_nil _ _ _ _ _ | exact Kd.Q_nil _ _ _ _ _ | exact Kd.R_nil _ _ _ _ _, by repeat (first | (with_reducible first | exact HB.out | apply below_alloc | apply pw_below_drewN | apply below_drew1) | exact HB.out)⟩
      · replace c25 := Bool.eq_false_iff.mpr c25
        subst c25
        have H1 : (if a1 = 2 then (neonwrightref05_Kautz.j1 kj3 a0 a2 (wrap64 (a0 * a0))) else (neonwrightref05_Kautz.j1 kj3 a0 a2 a0)) = some (r1, r2) := by rw [if_neg (show ¬ (false = true) by decide)] at H; exact H
        clear H
        have H := H1
        clear H1
        have HC26 := Aside0.mk H
        clear H
        go_upto_if 52 with (fail)
        repeat (go_quiet (fail); go_upto_if 52 with (fail))
        go_cut [8] (fun v8 wc => ∃ (kq : Nat) (x8_25 : Int), v8 = .int .i64 x8_25 ∧ Aside0 (neonwrightref05_Kautz.j1 kq a0 a2 x8_25 = some (r1, r2)) ∧ Aside0 (kq ≤ kj3) ∧ Aside0 (Below w.heap.size w wc))
        case first =>
          have H := HC26.out
          clear HC26
          by_cases c27 : a1 = 2
          · rw [if_pos c27] at H
            have c27b0 : (a1 == 2) = true := beq_iff_eq.mpr c27
            have c27b1 : (a1 != 2) = false := bne_eq_false_iff_eq.mpr c27
            clear c27
            (first | rw [c27b0] | (simp only [i64_w, i32_w]; rw [c27b0]) | skip)
            have H' := Aside0.mk H
            clear H
            go_wp2
            repeat (go_quiet (fail); try go_wp2)
            go_meet
            case rel => exact ⟨_, (wrap64 (a0 * a0)), (by first | rfl | (simp; done) | (simp [*]; done)), H', ⟨by have := HJ3.out; first | omega | exact Nat.le_refl _⟩, ⟨by repeat (first | (with_reducible first | exact HB.out | apply below_alloc | apply pw_below_drewN | apply below_drew1) | exact HB.out)⟩⟩
          · rw [if_neg c27] at H
            have c27b0 : (a1 == 2) = false := beq_eq_false_iff_ne.mpr c27
            have c27b1 : (a1 != 2) = true := bne_iff_ne.mpr c27
            (first | rw [c27b0] | (simp only [i64_w, i32_w]; rw [c27b0]) | skip)
            have H' := Aside0.mk H
            clear H
            go_wp2
            repeat (go_quiet (fail); try go_wp2)
            go_meet
            case rel => exact ⟨_, (a0), (by first | rfl | (simp; done) | (simp [*]; done)), H', ⟨by have := HJ3.out; first | omega | exact Nat.le_refl _⟩, ⟨by repeat (first | (with_reducible first | exact HB.out | apply below_alloc | apply pw_below_drewN | apply below_drew1) | exact HB.out)⟩⟩
        case rest =>
          clear HC26
          try clear c1
          try clear c2
          try clear p2
          try clear c3
          try clear c5
          try clear c5b0
          try clear c5b1
          try clear c6
          try clear c6b0
          try clear p6
          try clear c7
          try clear c7b0
          try clear c8
          try clear c8b0
          try clear c9
          try clear c9b0
          try clear c10
          try clear c10b0
          try clear c10b1
          try clear c11
          try clear c11b0
          try clear c12
          try clear c12b0
          try clear c13
          try clear c13b0
          try clear c14
          try clear c14b0
          try clear c15
          try clear c15b0
          try clear c15b1
          try clear c16
          try clear c16b0
          try clear c17
          try clear c17b0
          try clear c18
          try clear c18b0
          try clear c19
          try clear c19b0
          try clear c20
          try clear c20b0
          try clear c20b1
          try clear c21
          try clear c21b0
          try clear c22
          try clear c22b0
          try clear c23
          try clear c23b0
          try clear c24
          try clear c24b0
          try clear c25
          try clear c27
          try clear c27b0
          try clear c27b1
          try clear p2
          try clear p6
          obtain ⟨kq, x8_25, rfl, HA, HJ25, HB⟩ := hcut
          cases kq with
          | zero => exact absurd HA.out (by simp [neonwrightref05_Kautz.j1])
          | succ kj25 =>
            have H := HA.out
            clear HA
            simp only [neonwrightref05_Kautz.j1] at H
            obtain ⟨ji28, hji28⟩ : ∃ j_ : Int, (wrap64 (a0 * a2)) = j_ := ⟨_, rfl⟩
            replace H : (if 0 ≤ (ji28) then (if (ji28 : Int).toNat ≤ 11728124029610 then (neonwrightref05_Kautz.l0 kj25 a0 a2 x8_25 (List.replicate (ji28 : Int).toNat []) 0) else (none)) else (none)) = some (r1, r2) := by first | (rw [hji28] at H; exact H) | (simp only [hji28] at H ⊢; exact H)
            have hji28w : (IntKind.i64.wrap (a0 * a2)) = ji28 := (i64_w _).trans hji28
            by_cases c29 : 0 ≤ (ji28)
            · rw [if_pos c29] at H
              have c29b0 := eq_true c29
              have c29b1 : decide (0 ≤ (ji28)) = true := decide_eq_true c29
              clear c29
              by_cases c30 : (ji28 : Int).toNat ≤ 11728124029610
              · rw [if_pos c30] at H
                have c30b0 := eq_true c30
                have c30b1 : decide ((ji28 : Int).toNat ≤ 11728124029610) = true := decide_eq_true c30
                clear c30
                obtain ⟨y350, hy350⟩ : ∃ y_ : List (List Int), y_ = (List.replicate (ji28 : Int).toNat []) := ⟨_, rfl⟩
                replace H : (neonwrightref05_Kautz.l0 kj25 a0 a2 x8_25 y350 0) = some (r1, r2) := by first | (rw [hy350]; with_reducible exact H) | (have H2_ := (Option.bind_some _ _).symm.trans H; rw [hy350]; with_reducible exact H2_) | (have H2_ := (Option.bind_some _ _).symm.trans H; with_reducible exact H2_) | with_reducible exact H | (rw [hy350]; exact H) | exact H
                have Ny350 := Aside0.mk hy350
                clear hy350
                have H' := Aside0.mk H
                clear H
                go_wp2_with (first | ((with_reducible refine gate_dst (N := 59) rfl ?_); refine Kd.S_make (Kd.slice 3 (Kd.int .i64)) _ 25 rfl (N := 59) rfl 22 _ _ rfl ji28 rfl rfl Tryd.underlying22 (.slice none 0 0) 24 info25 rfl (by decide) (by omega) [] (ok := fun _ => True) (okp := fun _ => True) ⟨_, rfl, Kd.R_nil _ _ _ _ _⟩ (fun _ hk => hk) trivial (of_decide_eq_true (by first | (with_reducible assumption) | assumption)) (Nat.le_trans (Nat.mul_le_mul_right _ (of_decide_eq_true (by first | (with_reducible assumption) | assumption) : ji28.toNat ≤ 11728124029610)) (by omega)) (Below.refl _ _) (Nat.le_refl _) ?_; intro v351 w31 ho32 hb hg_ hnew_; clear hg_ hnew_; (first | rw [← Ny350.out] at ho32 | (simp only [Int.reduceToNat] at ho32; rw [← Ny350.out] at ho32)); have n0_ := Aside0.mk (Kd.S_lower ho32 (below_size (by repeat (first | (with_reducible first | exact HB.out | apply below_alloc | apply pw_below_drewN | apply below_drew1) | exact HB.out)))); have n1_ := Aside0.mk (below_step (by repeat (first | (with_reducible first | exact HB.out | apply below_alloc | apply pw_below_drewN | apply below_drew1) | exact HB.out)) hb); clear HB; have HO352 := n0_; have HB := n1_; clear n0_ n1_; clear hb ho32))
                repeat (go_quiet (first | ((with_reducible refine gate_dst (N := 59) rfl ?_); refine Kd.S_make (Kd.slice 3 (Kd.int .i64)) _ 25 rfl (N := 59) rfl 22 _ _ rfl ji28 rfl rfl Tryd.underlying22 (.slice none 0 0) 24 info25 rfl (by decide) (by omega) [] (ok := fun _ => True) (okp := fun _ => True) ⟨_, rfl, Kd.R_nil _ _ _ _ _⟩ (fun _ hk => hk) trivial (of_decide_eq_true (by first | (with_reducible assumption) | assumption)) (Nat.le_trans (Nat.mul_le_mul_right _ (of_decide_eq_true (by first | (with_reducible assumption) | assumption) : ji28.toNat ≤ 11728124029610)) (by omega)) (Below.refl _ _) (Nat.le_refl _) ?_; intro v351 w31 ho32 hb hg_ hnew_; clear hg_ hnew_; (first | rw [← Ny350.out] at ho32 | (simp only [Int.reduceToNat] at ho32; rw [← Ny350.out] at ho32)); have n0_ := Aside0.mk (Kd.S_lower ho32 (below_size (by repeat (first | (with_reducible first | exact HB.out | apply below_alloc | apply pw_below_drewN | apply below_drew1) | exact HB.out)))); have n1_ := Aside0.mk (below_step (by repeat (first | (with_reducible first | exact HB.out | apply below_alloc | apply pw_below_drewN | apply below_drew1) | exact HB.out)) hb); clear HB; have HO352 := n0_; have HB := n1_; clear n0_ n1_; clear hb ho32)); try go_wp2_with (first | ((with_reducible refine gate_dst (N := 59) rfl ?_); refine Kd.S_make (Kd.slice 3 (Kd.int .i64)) _ 25 rfl (N := 59) rfl 22 _ _ rfl ji28 rfl rfl Tryd.underlying22 (.slice none 0 0) 24 info25 rfl (by decide) (by omega) [] (ok := fun _ => True) (okp := fun _ => True) ⟨_, rfl, Kd.R_nil _ _ _ _ _⟩ (fun _ hk => hk) trivial (of_decide_eq_true (by first | (with_reducible assumption) | assumption)) (Nat.le_trans (Nat.mul_le_mul_right _ (of_decide_eq_true (by first | (with_reducible assumption) | assumption) : ji28.toNat ≤ 11728124029610)) (by omega)) (Below.refl _ _) (Nat.le_refl _) ?_; intro v351 w31 ho32 hb hg_ hnew_; clear hg_ hnew_; (first | rw [← Ny350.out] at ho32 | (simp only [Int.reduceToNat] at ho32; rw [← Ny350.out] at ho32)); have n0_ := Aside0.mk (Kd.S_lower ho32 (below_size (by repeat (first | (with_reducible first | exact HB.out | apply below_alloc | apply pw_below_drewN | apply below_drew1) | exact HB.out)))); have n1_ := Aside0.mk (below_step (by repeat (first | (with_reducible first | exact HB.out | apply below_alloc | apply pw_below_drewN | apply below_drew1) | exact HB.out)) hb); clear HB; have HO352 := n0_; have HB := n1_; clear n0_ n1_; clear hb ho32)))
                go_loopg [10] kj25 (fun kq v10 w' => ∃ (x9_3 : List (List Int)) (x10_3 : Int), v10 = .int .i64 x10_3 ∧ Aside0 (neonwrightref05_Kautz.l0 kq a0 a2 x8_25 x9_3 x10_3 = some (r1, r2)) ∧ Aside0 (kq ≤ kj25) ∧ Aside0 (Kd.S (Kd.slice 3 (Kd.int .i64)) 25 w' w.heap.size (fun _ => True) v351 x9_3) ∧ Aside0 (Below w.heap.size w w'))
                case atStart => exact ⟨(y350), (0), (by first | rfl | (simp; done) | (simp [*]; done)), H', ⟨Nat.le_refl _⟩, ⟨by (with_reducible repeat (first | apply Kd.S_alloc | apply Kd.S_drewN | apply Kd.S_drew)); first | exact HO352.out | exact Kd.R_mono HO352.out (fun k_ h_ => ne_own_len h_)⟩, ⟨by repeat (first | (with_reducible first | exact HB.out | apply below_alloc | apply pw_below_drewN | apply below_drew1) | exact HB.out)⟩⟩
                case round =>
                  clear H'
                  try clear c1
                  try clear c2
                  try clear p2
                  try clear c3
                  try clear c5
                  try clear c5b0
                  try clear c5b1
                  try clear c6
                  try clear c6b0
                  try clear p6
                  try clear c7
                  try clear c7b0
                  try clear c8
                  try clear c8b0
                  try clear c9
                  try clear c9b0
                  try clear c10
                  try clear c10b0
                  try clear c10b1
                  try clear c11
                  try clear c11b0
                  try clear c12
                  try clear c12b0
                  try clear c13
                  try clear c13b0
                  try clear c14
                  try clear c14b0
                  try clear c15
                  try clear c15b0
                  try clear c15b1
                  try clear c16
                  try clear c16b0
                  try clear c17
                  try clear c17b0
                  try clear c18
                  try clear c18b0
                  try clear c19
                  try clear c19b0
                  try clear c20
                  try clear c20b0
                  try clear c20b1
                  try clear c21
                  try clear c21b0
                  try clear c22
                  try clear c22b0
                  try clear c23
                  try clear c23b0
                  try clear c24
                  try clear c24b0
                  try clear c25
                  try clear c27
                  try clear c27b0
                  try clear c27b1
                  try clear c29
                  try clear c29b0
                  try clear c29b1
                  try clear c30
                  try clear c30b0
                  try clear c30b1
                  try clear p2
                  try clear p6
                  obtain ⟨x9_3, x10_3, rfl, HA, HK3, HO_9, HB⟩ := hrel
                  cases gk with
                  | zero => exact absurd HA.out (by simp [neonwrightref05_Kautz.l0])
                  | succ k3 =>
                    have H := HA.out
                    clear HA
                    simp only [neonwrightref05_Kautz.l0] at H
                    by_cases c33 : x10_3 < a2
                    · rw [if_pos c33] at H
                      have c33b0 : decide (x10_3 < a2) = true := decide_eq_true c33
                      clear c33
                      have H' := Aside0.mk H
                      clear H
                      go_wp2
                      repeat (go_quiet (fail); try go_wp2)
                      go_loopg [11] k3 (fun kq v11 w' => ∃ (x9_4 : List (List Int)) (x11_4 : Int), v11 = .int .i64 x11_4 ∧ Aside0 (neonwrightref05_Kautz.l1 kq a0 a2 x8_25 x9_4 x10_3 x11_4 = some (r1, r2)) ∧ Aside0 (kq ≤ k3) ∧ Aside0 (Kd.S (Kd.slice 3 (Kd.int .i64)) 25 w' w.heap.size (fun _ => True) v351 x9_4) ∧ Aside0 (Below w.heap.size w w'))
                      case atStart => exact ⟨(x9_3), (0), (by first | rfl | (simp; done) | (simp [*]; done)), H', ⟨Nat.le_refl _⟩, ⟨by (with_reducible repeat (first | apply Kd.S_alloc | apply Kd.S_drewN | apply Kd.S_drew)); first | exact HO_9.out | exact Kd.R_mono HO_9.out (fun k_ h_ => ne_own_len h_)⟩, ⟨by repeat (first | (with_reducible first | exact HB.out | apply below_alloc | apply pw_below_drewN | apply below_drew1) | exact HB.out)⟩⟩
                      case round =>
                        clear H'
                        try clear c1
                        try clear c2
                        try clear p2
                        try clear c3
                        try clear c5
                        try clear c5b0
                        try clear c5b1
                        try clear c6
                        try clear c6b0
                        try clear p6
                        try clear c7
                        try clear c7b0
                        try clear c8
                        try clear c8b0
                        try clear c9
                        try clear c9b0
                        try clear c10
                        try clear c10b0
                        try clear c10b1
                        try clear c11
                        try clear c11b0
                        try clear c12
                        try clear c12b0
                        try clear c13
                        try clear c13b0
                        try clear c14
                        try clear c14b0
                        try clear c15
                        try clear c15b0
                        try clear c15b1
                        try clear c16
                        try clear c16b0
                        try clear c17
                        try clear c17b0
                        try clear c18
                        try clear c18b0
                        try clear c19
                        try clear c19b0
                        try clear c20
                        try clear c20b0
                        try clear c20b1
                        try clear c21
                        try clear c21b0
                        try clear c22
                        try clear c22b0
                        try clear c23
                        try clear c23b0
                        try clear c24
                        try clear c24b0
                        try clear c25
                        try clear c27
                        try clear c27b0
                        try clear c27b1
                        try clear c29
                        try clear c29b0
                        try clear c29b1
                        try clear c30
                        try clear c30b0
                        try clear c30b1
                        try clear c33
                        try clear c33b0
                        try clear p2
                        try clear p6
                        obtain ⟨x9_4, x11_4, rfl, HA, HK4, HO_9, HB⟩ := hrel
                        cases gk with
                        | zero => exact absurd HA.out (by simp [neonwrightref05_Kautz.l1])
                        | succ k4 =>
                          have H := HA.out
                          clear HA
                          simp only [neonwrightref05_Kautz.l1] at H
                          by_cases c34 : x11_4 < x8_25
                          · rw [if_pos c34] at H
                            have c34b0 : decide (x11_4 < x8_25) = true := decide_eq_true c34
                            clear c34
                            by_cases c35 : a0 = 0
                            · rw [if_pos c35] at H
                              exact absurd H (by simp)
                            · rw [if_neg c35] at H
                              have c35b0 : (a0 == 0) = false := beq_eq_false_iff_ne.mpr c35
                              have c35b1 : (a0 != 0) = true := bne_iff_ne.mpr c35
                              obtain ⟨ji36, hji36⟩ : ∃ j_ : Int, (wrap64 ((wrap64 (x10_3 * a0)) + (Int.tmod (wrap64 ((Int.tmod x11_4 a0) + (wrap64 ((wrap64 (Int.tdiv x11_4 a0)) * x10_3)))) a0))) = j_ := ⟨_, rfl⟩
                              replace H : (if 0 ≤ (ji36) then (if (ji36) < (x9_4.length : Int) then (if (rd_L1 x9_4 (ji36)).length < 17592186044416 then (neonwrightref05_Kautz.l1 k4 a0 a2 x8_25 (x9_4.set ((ji36) : Int).toNat ((rd_L1 x9_4 (ji36)) ++ [x11_4])) x10_3 (wrap64 (x11_4 + 1))) else (none)) else (none)) else (none)) = some (r1, r2) := by first | (rw [hji36] at H; exact H) | (simp only [hji36] at H ⊢; exact H)
                              have hji36w : (IntKind.i64.wrap ((wrap64 (x10_3 * a0)) + (Int.tmod (wrap64 ((Int.tmod x11_4 a0) + (wrap64 ((wrap64 (Int.tdiv x11_4 a0)) * x10_3)))) a0))) = ji36 := (i64_w _).trans hji36
                              by_cases c37 : 0 ≤ (ji36)
                              · rw [if_pos c37] at H
                                have c37b0 : decide (0 ≤ (ji36)) = true := decide_eq_true c37
                                clear c37
                                by_cases c38 : (ji36) < (x9_4.length : Int)
                                · rw [if_pos c38] at H
                                  have c38b0 : decide ((ji36) < (x9_4.length : Int)) = true := decide_eq_true c38
                                  clear c38
                                  by_cases c39 : (rd_L1 x9_4 (ji36)).length < 17592186044416
                                  · rw [if_pos c39] at H
                                    have LMc39 := Aside0.mk c39
                                    clear c39
                                    obtain ⟨y354, hy354⟩ : ∃ y_ : List Int, y_ = ((rd_L1 x9_4 (ji36)) ++ [x11_4]) := ⟨_, rfl⟩
                                    replace H : (neonwrightref05_Kautz.l1 k4 a0 a2 x8_25 (x9_4.set ((ji36) : Int).toNat y354) x10_3 (wrap64 (x11_4 + 1))) = some (r1, r2) := by first | (rw [hy354]; with_reducible exact H) | (have H2_ := (Option.bind_some _ _).symm.trans H; rw [hy354]; with_reducible exact H2_) | (have H2_ := (Option.bind_some _ _).symm.trans H; with_reducible exact H2_) | with_reducible exact H | (rw [hy354]; exact H) | exact H
                                    have Ny354 := Aside0.mk hy354
                                    clear hy354
                                    obtain ⟨y357, hy357⟩ : ∃ y_ : List (List Int), y_ = (x9_4.set ((ji36) : Int).toNat y354) := ⟨_, rfl⟩
                                    replace H : (neonwrightref05_Kautz.l1 k4 a0 a2 x8_25 y357 x10_3 (wrap64 (x11_4 + 1))) = some (r1, r2) := by first | (rw [hy357]; with_reducible exact H) | (have H2_ := (Option.bind_some _ _).symm.trans H; rw [hy357]; with_reducible exact H2_) | (have H2_ := (Option.bind_some _ _).symm.trans H; with_reducible exact H2_) | with_reducible exact H | (rw [hy357]; exact H) | exact H
                                    have Ny357 := Aside0.mk hy357
                                    clear hy357
                                    have H' := Aside0.mk H
                                    clear H
                                    obtain ⟨Ao41, co41, eo41⟩ := Kd.S_slice HO_9.out
                                    subst eo41
                                    have p353 : 0 ≤ ((ji36) : Int) := of_decide_eq_true (by first | (with_reducible assumption) | assumption)
                                    have q353 : (ji36) < (x9_4.length : Int) := of_decide_eq_true (by first | (with_reducible assumption) | assumption)
                                    obtain ⟨ad353, A353_0, c353_0, e353, hx353_0, hl353_0, hi353_0⟩ := at_L1 (Kd.S_reads' HO_9.out).2.2 (ji36) p353 q353
                                    cases e353
                                    obtain ⟨ce353, hce353, hMe353, hcc353⟩ := Kd.S_get HO_9.out [] (ji36) p353 (by first | exact q353 | exact of_decide_eq_true (by first | (with_reducible assumption) | assumption) | (have e_ := (Kd.S_reads' HO_9.out).1; omega))
                                    obtain ⟨ve353_0, rfl, ge353_0⟩ := hMe353
                                    have hv353_0 := hcc353 0 _ rfl
                                    rw [Nat.add_zero, show ((Kd.slice 3 (Kd.int .i64))).sz = 1 from rfl, Nat.mul_one] at hv353_0
                                    replace hv353_0 := Option.some.inj (hv353_0.symm.trans hx353_0)
                                    rw [hv353_0] at ge353_0
                                    have HL353_0 := Aside0.mk (show Kd.R (Kd.int .i64) 3 _ _ _ _ (rd_L1 x9_4 (ji36)) from ge353_0)
                                    clear hv353_0 ge353_0
                                    have HX353_0 := Aside0.mk hx353_0
                                    clear hcc353 hce353
                                    have HR353_0 := Aside0.mk hi353_0
                                    have HC353_0 := Aside0.mk hl353_0
                                    clear hi353_0 hl353_0
                                    replace p353 := eq_true p353
                                    replace q353 := eq_true q353
                                    obtain ⟨go42, co42, eo42, gb42, gl42, cl42, HG42⟩ := Kd.S_form HO_9.out (by have h_ : ((ji36) : Int) < ((x9_4.length : Int) : Int) := of_decide_eq_true (by first | (with_reducible assumption) | assumption); have h2_ : 0 ≤ ((ji36) : Int) := (of_decide_eq_true (by first | (with_reducible assumption) | assumption)); omega)
                                    (first | cases eo42 | (injection eo42 with ea_ en_ ec_; (first | subst ea_ | (injection ea_ with ea_; subst ea_)); subst ec_; clear en_))
                                    have GB42 := Aside0.mk gb42
                                    have GG42 := Aside0.mk HG42
                                    clear gb42 gl42 HG42
                                    (first | simp only [add_plain] at hx353_0 | skip)
                                    obtain ⟨oki42, ce42, hcl42, hM42, hcc42, _, _, hH42⟩ := Kd.S_elem HO_9.out [] ((ji36) : Int) (of_decide_eq_true (by first | (with_reducible assumption) | assumption)) (by have h_ : ((ji36) : Int) < ((x9_4.length : Int) : Int) := of_decide_eq_true (by first | (with_reducible assumption) | assumption); first | exact h_ | (have e_ := (Kd.S_reads' HO_9.out).1; omega) | simpa using h_)
                                    obtain ⟨ve42_0, rfl, ge42_0⟩ := hM42
                                    have hv42 := hcc42 0 _ rfl
                                    have hX42 := HX353_0.out
                                    (try simp only [add_plain] at hX42)
                                    (try simp only [Nat.add_zero] at hv42)
                                    (try rw [show ((Kd.slice 3 (Kd.int .i64))).sz = 1 from rfl, Nat.mul_one] at hv42)
                                    replace hv42 := Option.some.inj (hv42.symm.trans hX42)
                                    subst hv42
                                    clear hX42 hcc42 hcl42
                                    have UU42 := Aside0.mk (show Kd.R (Kd.int .i64) 3 _ w.heap.size oki42 (.slice A353_0 (rd_L1 x9_4 (ji36)).length c353_0) (rd_L1 x9_4 (ji36)) from ge42_0)
                                    have HH42 := Aside0.mk hH42
                                    have HN42 := Aside0.mk (Kd.S_reads' HO_9.out).1
                                    clear hH42 ge42_0
                                    go_wp2_with (first | ((with_reducible refine gate_builtin (b := .append) (xs := #[.tmp 94, .tmp 96]) rfl ?_); at_builtin; refine Kd.R_append (Kd.int .i64) (w0 := w) w.heap.size rfl (.tmp 94) (.tmp 96) 25 3 (.int .i64 0) 8 rfl Tryd.underlying25 info3 rfl (by decide) (by omega) (.slice A353_0 (rd_L1 x9_4 (ji36)).length c353_0) (rd_L1 x9_4 (ji36)) x11_4 [.int .i64 x11_4] (fun k_ => oki42 k_ ∨ ((fun _ => True)) k_ ∧ wr.heap.size ≤ k_) (fun _ => False) rfl rfl ?aP (fun _ hk => hk.elim) ?aF ?aO ?aB ?aS ?aL ?_; (case aP => exact rfl); (case aB => exact (by repeat (first | (with_reducible first | exact HB.out | apply below_alloc | apply pw_below_drewN | apply below_drew1) | exact HB.out))); (case aF => exact (fun k_ hk => .inr ⟨trivial, hk⟩)); (case aO => exact (by (with_reducible repeat (first | apply Kd.R_alloc | apply Kd.R_drewN | apply Kd.R_drew)); exact Kd.R_mono UU42.out (fun _ hk => .inl hk))); (case aS => exact (below_size (by repeat (first | (with_reducible first | exact HB.out | apply below_alloc | apply pw_below_drewN | apply below_drew1) | exact HB.out)))); (case aL => have := LMc39.out; omega); intro v355 w43 ho hb hg hat; rw [← Ny354.out] at ho; have n0_ := Aside0.mk (hb); have n1_ := Aside0.mk (Kd.H_grown (Kd.H_widen (by repeat (first | exact HH42.out | refine Kd.H_alloc ?_ _ | refine Kd.H_drewN ?_ _ | refine Kd.H_drew ?_))) hg (fun k_ e_ => .inl (UU42.out.1 k_ e_))); have n2_ := Aside0.mk (ho); clear HB; clear HH42; clear HO_9; clear UU42; clear HL353_0; have HB := n0_; have HH42 := n1_; have HO356 := n2_; clear n0_ n1_ n2_; clear ho hb hg hat; have p40 : 0 ≤ ((ji36) : Int) := of_decide_eq_true (by first | (with_reducible assumption) | assumption); have q40 : ((ji36) : Int) < ((x9_4.length : Int) : Int) := of_decide_eq_true (by first | (with_reducible assumption) | assumption); replace p40 := eq_true p40; replace q40 := eq_true q40; obtain ⟨Ao46, co46, eo46⟩ := Kd.R_slice HO356.out; subst eo46; obtain ⟨_, _, hraw44, _, _, hcc44, _⟩ := Kd.H_raw HH42.out (of_decide_eq_true (by first | (with_reducible assumption) | assumption)) (by have h_ : ((ji36) : Int) < ((x9_4.length : Int) : Int) := of_decide_eq_true (by first | (with_reducible assumption) | assumption); first | exact h_ | (have e_ := (HN42.out); omega) | simpa using h_); obtain ⟨_, hfr44⟩ := Kd.H_at HH42.out (of_decide_eq_true (by first | (with_reducible assumption) | assumption)) (by have h_ : ((ji36) : Int) < ((x9_4.length : Int) : Int) := of_decide_eq_true (by first | (with_reducible assumption) | assumption); first | exact h_ | (have e_ := (HN42.out); omega) | simpa using h_); have hx44_0 := hcc44 0 _ rfl; have hf44_0 := hfr44 0; (try simp only [Nat.add_zero] at hx44_0 hf44_0); (try rw [show ((Kd.slice 3 (Kd.int .i64))).sz = 1 from rfl, Nat.mul_one] at hx44_0); (try rw [show ((Kd.slice 3 (Kd.int .i64))).sz = 1 from rfl, Nat.mul_one] at hf44_0); have HP44 := Kd.S_seg0 HH42.out (of_decide_eq_true (by first | (with_reducible assumption) | assumption)) (by have h_ : ((ji36) : Int) < ((x9_4.length : Int) : Int) := of_decide_eq_true (by first | (with_reducible assumption) | assumption); first | exact h_ | (have e_ := (HN42.out); omega) | simpa using h_) (seg := [.slice Ao46 y354.length co46]) (j := 0) (show 1 ≤ 1 from by decide) (x' := y354) (Kd.M_row HO356.out) (fun _ hk => hk); (try simp only [show ((Kd.slice 3 (Kd.int .i64))).sz = 1 from rfl, Nat.mul_one, Nat.add_zero] at HP44); clear hcc44 hfr44) | ((with_reducible refine gate_store (t := 25) (p := 98) rfl ?_); (try (rw [drewN_self w43]; generalize hq_ : World.drewN w43 _ = w43; have n0_ := Aside0.mk (Kd.S_at hq_ HO_9.out); have n1_ := Aside0.mk (below_at hq_ HB.out); clear hq_ HO_9 HB; have HO_9 := n0_; have HB := n1_; clear n0_ n1_; (try (obtain ⟨Ao46, co46, eo46⟩ := Kd.R_slice HO356.out)); (try (subst eo46)); (try (obtain ⟨_, _, hraw44, _, _, hcc44, _⟩ := Kd.H_raw HH42.out (of_decide_eq_true (by first | (with_reducible assumption) | assumption)) (by have h_ : ((ji36) : Int) < ((x9_4.length : Int) : Int) := of_decide_eq_true (by first | (with_reducible assumption) | assumption); first | exact h_ | (have e_ := (HN42.out); omega) | simpa using h_))); (try (obtain ⟨_, hfr44⟩ := Kd.H_at HH42.out (of_decide_eq_true (by first | (with_reducible assumption) | assumption)) (by have h_ : ((ji36) : Int) < ((x9_4.length : Int) : Int) := of_decide_eq_true (by first | (with_reducible assumption) | assumption); first | exact h_ | (have e_ := (HN42.out); omega) | simpa using h_))); (try (have hx44_0 := hcc44 0 _ rfl)); (try (have hf44_0 := hfr44 0)); (try (try simp only [Nat.add_zero] at hx44_0 hf44_0)); (try (try rw [show ((Kd.slice 3 (Kd.int .i64))).sz = 1 from rfl, Nat.mul_one] at hx44_0)); (try (try rw [show ((Kd.slice 3 (Kd.int .i64))).sz = 1 from rfl, Nat.mul_one] at hf44_0)); (try (have HP44 := Kd.S_seg0 HH42.out (of_decide_eq_true (by first | (with_reducible assumption) | assumption)) (by have h_ : ((ji36) : Int) < ((x9_4.length : Int) : Int) := of_decide_eq_true (by first | (with_reducible assumption) | assumption); first | exact h_ | (have e_ := (HN42.out); omega) | simpa using h_) (seg := [.slice Ao46 y354.length co46]) (j := 0) (show 1 ≤ 1 from by decide) (x' := y354) (Kd.M_row HO356.out) (fun _ hk => hk))); (try (try simp only [show ((Kd.slice 3 (Kd.int .i64))).sz = 1 from rfl, Nat.mul_one, Nat.add_zero] at HP44)); (try (clear hcc44 hfr44)))); refine store_event (t := 25) (p := 98) (v := ?vo_w45) (w1 := (w43.setCell ⟨go42, ((ji36) : Int).toNat, none⟩ (.slice Ao46 y354.length co46))) ?hg ?ho ?hn ?hr ?_; (case ho => rfl); (case hg => rfl); (case hn => rfl); (case hr => first | (go_simp; done) | (go_simp; rfl)); intro w45 hw; have hg : w43.grownBy w45 (some go42) := (by rw [hw]; exact HP44.2); have hp_ : Kd.S (Kd.slice 3 (Kd.int .i64)) 25 w45 w.heap.size (fun _ => True) (.slice (some ⟨go42, 0, none⟩) x9_4.length co41) y357 := (by rw [hw, Ny357.out]; exact HP44.1); clear HP44; have n0_ := Aside0.mk ((by rw [hw]; exact below_set HB.out GB42.out : Below w.heap.size w w45)); have n1_ := Aside0.mk (hp_); clear HB; clear HO356; clear HH42; have HB := n0_; have HO_9 := n1_; clear n0_ n1_; clear hg hw hp_ hraw44))
                                    repeat (go_quiet (first | ((with_reducible refine gate_builtin (b := .append) (xs := #[.tmp 94, .tmp 96]) rfl ?_); at_builtin; refine Kd.R_append (Kd.int .i64) (w0 := w) w.heap.size rfl (.tmp 94) (.tmp 96) 25 3 (.int .i64 0) 8 rfl Tryd.underlying25 info3 rfl (by decide) (by omega) (.slice A353_0 (rd_L1 x9_4 (ji36)).length c353_0) (rd_L1 x9_4 (ji36)) x11_4 [.int .i64 x11_4] (fun k_ => oki42 k_ ∨ ((fun _ => True)) k_ ∧ wr.heap.size ≤ k_) (fun _ => False) rfl rfl ?aP (fun _ hk => hk.elim) ?aF ?aO ?aB ?aS ?aL ?_; (case aP => exact rfl); (case aB => exact (by repeat (first | (with_reducible first | exact HB.out | apply below_alloc | apply pw_below_drewN | apply below_drew1) | exact HB.out))); (case aF => exact (fun k_ hk => .inr ⟨trivial, hk⟩)); (case aO => exact (by (with_reducible repeat (first | apply Kd.R_alloc | apply Kd.R_drewN | apply Kd.R_drew)); exact Kd.R_mono UU42.out (fun _ hk => .inl hk))); (case aS => exact (below_size (by repeat (first | (with_reducible first | exact HB.out | apply below_alloc | apply pw_below_drewN | apply below_drew1) | exact HB.out)))); (case aL => have := LMc39.out; omega); intro v355 w43 ho hb hg hat; rw [← Ny354.out] at ho; have n0_ := Aside0.mk (hb); have n1_ := Aside0.mk (Kd.H_grown (Kd.H_widen (by repeat (first | exact HH42.out | refine Kd.H_alloc ?_ _ | refine Kd.H_drewN ?_ _ | refine Kd.H_drew ?_))) hg (fun k_ e_ => .inl (UU42.out.1 k_ e_))); have n2_ := Aside0.mk (ho); clear HB; clear HH42; clear HO_9; clear UU42; clear HL353_0; have HB := n0_; have HH42 := n1_; have HO356 := n2_; clear n0_ n1_ n2_; clear ho hb hg hat; have p40 : 0 ≤ ((ji36) : Int) := of_decide_eq_true (by first | (with_reducible assumption) | assumption); have q40 : ((ji36) : Int) < ((x9_4.length : Int) : Int) := of_decide_eq_true (by first | (with_reducible assumption) | assumption); replace p40 := eq_true p40; replace q40 := eq_true q40; obtain ⟨Ao46, co46, eo46⟩ := Kd.R_slice HO356.out; subst eo46; obtain ⟨_, _, hraw44, _, _, hcc44, _⟩ := Kd.H_raw HH42.out (of_decide_eq_true (by first | (with_reducible assumption) | assumption)) (by have h_ : ((ji36) : Int) < ((x9_4.length : Int) : Int) := of_decide_eq_true (by first | (with_reducible assumption) | assumption); first | exact h_ | (have e_ := (HN42.out); omega) | simpa using h_); obtain ⟨_, hfr44⟩ := Kd.H_at HH42.out (of_decide_eq_true (by first | (with_reducible assumption) | assumption)) (by have h_ : ((ji36) : Int) < ((x9_4.length : Int) : Int) := of_decide_eq_true (by first | (with_reducible assumption) | assumption); first | exact h_ | (have e_ := (HN42.out); omega) | simpa using h_); have hx44_0 := hcc44 0 _ rfl; have hf44_0 := hfr44 0; (try simp only [Nat.add_zero] at hx44_0 hf44_0); (try rw [show ((Kd.slice 3 (Kd.int .i64))).sz = 1 from rfl, Nat.mul_one] at hx44_0); (try rw [show ((Kd.slice 3 (Kd.int .i64))).sz = 1 from rfl, Nat.mul_one] at hf44_0); have HP44 := Kd.S_seg0 HH42.out (of_decide_eq_true (by first | (with_reducible assumption) | assumption)) (by have h_ : ((ji36) : Int) < ((x9_4.length : Int) : Int) := of_decide_eq_true (by first | (with_reducible assumption) | assumption); first | exact h_ | (have e_ := (HN42.out); omega) | simpa using h_) (seg := [.slice Ao46 y354.length co46]) (j := 0) (show 1 ≤ 1 from by decide) (x' := y354) (Kd.M_row HO356.out) (fun _ hk => hk); (try simp only [show ((Kd.slice 3 (Kd.int .i64))).sz = 1 from rfl, Nat.mul_one, Nat.add_zero] at HP44); clear hcc44 hfr44) | ((with_reducible refine gate_store (t := 25) (p := 98) rfl ?_); (try (rw [drewN_self w43]; generalize hq_ : World.drewN w43 _ = w43; have n0_ := Aside0.mk (Kd.S_at hq_ HO_9.out); have n1_ := Aside0.mk (below_at hq_ HB.out); clear hq_ HO_9 HB; have HO_9 := n0_; have HB := n1_; clear n0_ n1_; (try (obtain ⟨Ao46, co46, eo46⟩ := Kd.R_slice HO356.out)); (try (subst eo46)); (try (obtain ⟨_, _, hraw44, _, _, hcc44, _⟩ := Kd.H_raw HH42.out (of_decide_eq_true (by first | (with_reducible assumption) | assumption)) (by have h_ : ((ji36) : Int) < ((x9_4.length : Int) : Int) := of_decide_eq_true (by first | (with_reducible assumption) | assumption); first | exact h_ | (have e_ := (HN42.out); omega) | simpa using h_))); (try (obtain ⟨_, hfr44⟩ := Kd.H_at HH42.out (of_decide_eq_true (by first | (with_reducible assumption) | assumption)) (by have h_ : ((ji36) : Int) < ((x9_4.length : Int) : Int) := of_decide_eq_true (by first | (with_reducible assumption) | assumption); first | exact h_ | (have e_ := (HN42.out); omega) | simpa using h_))); (try (have hx44_0 := hcc44 0 _ rfl)); (try (have hf44_0 := hfr44 0)); (try (try simp only [Nat.add_zero] at hx44_0 hf44_0)); (try (try rw [show ((Kd.slice 3 (Kd.int .i64))).sz = 1 from rfl, Nat.mul_one] at hx44_0)); (try (try rw [show ((Kd.slice 3 (Kd.int .i64))).sz = 1 from rfl, Nat.mul_one] at hf44_0)); (try (have HP44 := Kd.S_seg0 HH42.out (of_decide_eq_true (by first | (with_reducible assumption) | assumption)) (by have h_ : ((ji36) : Int) < ((x9_4.length : Int) : Int) := of_decide_eq_true (by first | (with_reducible assumption) | assumption); first | exact h_ | (have e_ := (HN42.out); omega) | simpa using h_) (seg := [.slice Ao46 y354.length co46]) (j := 0) (show 1 ≤ 1 from by decide) (x' := y354) (Kd.M_row HO356.out) (fun _ hk => hk))); (try (try simp only [show ((Kd.slice 3 (Kd.int .i64))).sz = 1 from rfl, Nat.mul_one, Nat.add_zero] at HP44)); (try (clear hcc44 hfr44)))); refine store_event (t := 25) (p := 98) (v := ?vo_w45) (w1 := (w43.setCell ⟨go42, ((ji36) : Int).toNat, none⟩ (.slice Ao46 y354.length co46))) ?hg ?ho ?hn ?hr ?_; (case ho => rfl); (case hg => rfl); (case hn => rfl); (case hr => first | (go_simp; done) | (go_simp; rfl)); intro w45 hw; have hg : w43.grownBy w45 (some go42) := (by rw [hw]; exact HP44.2); have hp_ : Kd.S (Kd.slice 3 (Kd.int .i64)) 25 w45 w.heap.size (fun _ => True) (.slice (some ⟨go42, 0, none⟩) x9_4.length co41) y357 := (by rw [hw, Ny357.out]; exact HP44.1); clear HP44; have n0_ := Aside0.mk ((by rw [hw]; exact below_set HB.out GB42.out : Below w.heap.size w w45)); have n1_ := Aside0.mk (hp_); clear HB; clear HO356; clear HH42; have HB := n0_; have HO_9 := n1_; clear n0_ n1_; clear hg hw hp_ hraw44)); try go_wp2_with (first | ((with_reducible refine gate_builtin (b := .append) (xs := #[.tmp 94, .tmp 96]) rfl ?_); at_builtin; refine Kd.R_append (Kd.int .i64) (w0 := w) w.heap.size rfl (.tmp 94) (.tmp 96) 25 3 (.int .i64 0) 8 rfl Tryd.underlying25 info3 rfl (by decide) (by omega) (.slice A353_0 (rd_L1 x9_4 (ji36)).length c353_0) (rd_L1 x9_4 (ji36)) x11_4 [.int .i64 x11_4] (fun k_ => oki42 k_ ∨ ((fun _ => True)) k_ ∧ wr.heap.size ≤ k_) (fun _ => False) rfl rfl ?aP (fun _ hk => hk.elim) ?aF ?aO ?aB ?aS ?aL ?_; (case aP => exact rfl); (case aB => exact (by repeat (first | (with_reducible first | exact HB.out | apply below_alloc | apply pw_below_drewN | apply below_drew1) | exact HB.out))); (case aF => exact (fun k_ hk => .inr ⟨trivial, hk⟩)); (case aO => exact (by (with_reducible repeat (first | apply Kd.R_alloc | apply Kd.R_drewN | apply Kd.R_drew)); exact Kd.R_mono UU42.out (fun _ hk => .inl hk))); (case aS => exact (below_size (by repeat (first | (with_reducible first | exact HB.out | apply below_alloc | apply pw_below_drewN | apply below_drew1) | exact HB.out)))); (case aL => have := LMc39.out; omega); intro v355 w43 ho hb hg hat; rw [← Ny354.out] at ho; have n0_ := Aside0.mk (hb); have n1_ := Aside0.mk (Kd.H_grown (Kd.H_widen (by repeat (first | exact HH42.out | refine Kd.H_alloc ?_ _ | refine Kd.H_drewN ?_ _ | refine Kd.H_drew ?_))) hg (fun k_ e_ => .inl (UU42.out.1 k_ e_))); have n2_ := Aside0.mk (ho); clear HB; clear HH42; clear HO_9; clear UU42; clear HL353_0; have HB := n0_; have HH42 := n1_; have HO356 := n2_; clear n0_ n1_ n2_; clear ho hb hg hat; have p40 : 0 ≤ ((ji36) : Int) := of_decide_eq_true (by first | (with_reducible assumption) | assumption); have q40 : ((ji36) : Int) < ((x9_4.length : Int) : Int) := of_decide_eq_true (by first | (with_reducible assumption) | assumption); replace p40 := eq_true p40; replace q40 := eq_true q40; obtain ⟨Ao46, co46, eo46⟩ := Kd.R_slice HO356.out; subst eo46; obtain ⟨_, _, hraw44, _, _, hcc44, _⟩ := Kd.H_raw HH42.out (of_decide_eq_true (by first | (with_reducible assumption) | assumption)) (by have h_ : ((ji36) : Int) < ((x9_4.length : Int) : Int) := of_decide_eq_true (by first | (with_reducible assumption) | assumption); first | exact h_ | (have e_ := (HN42.out); omega) | simpa using h_); obtain ⟨_, hfr44⟩ := Kd.H_at HH42.out (of_decide_eq_true (by first | (with_reducible assumption) | assumption)) (by have h_ : ((ji36) : Int) < ((x9_4.length : Int) : Int) := of_decide_eq_true (by first | (with_reducible assumption) | assumption); first | exact h_ | (have e_ := (HN42.out); omega) | simpa using h_); have hx44_0 := hcc44 0 _ rfl; have hf44_0 := hfr44 0; (try simp only [Nat.add_zero] at hx44_0 hf44_0); (try rw [show ((Kd.slice 3 (Kd.int .i64))).sz = 1 from rfl, Nat.mul_one] at hx44_0); (try rw [show ((Kd.slice 3 (Kd.int .i64))).sz = 1 from rfl, Nat.mul_one] at hf44_0); have HP44 := Kd.S_seg0 HH42.out (of_decide_eq_true (by first | (with_reducible assumption) | assumption)) (by have h_ : ((ji36) : Int) < ((x9_4.length : Int) : Int) := of_decide_eq_true (by first | (with_reducible assumption) | assumption); first | exact h_ | (have e_ := (HN42.out); omega) | simpa using h_) (seg := [.slice Ao46 y354.length co46]) (j := 0) (show 1 ≤ 1 from by decide) (x' := y354) (Kd.M_row HO356.out) (fun _ hk => hk); (try simp only [show ((Kd.slice 3 (Kd.int .i64))).sz = 1 from rfl, Nat.mul_one, Nat.add_zero] at HP44); clear hcc44 hfr44) | ((with_reducible refine gate_store (t := 25) (p := 98) rfl ?_); (try (rw [drewN_self w43]; generalize hq_ : World.drewN w43 _ = w43; have n0_ := Aside0.mk (Kd.S_at hq_ HO_9.out); have n1_ := Aside0.mk (below_at hq_ HB.out); clear hq_ HO_9 HB; have HO_9 := n0_; have HB := n1_; clear n0_ n1_; (try (obtain ⟨Ao46, co46, eo46⟩ := Kd.R_slice HO356.out)); (try (subst eo46)); (try (obtain ⟨_, _, hraw44, _, _, hcc44, _⟩ := Kd.H_raw HH42.out (of_decide_eq_true (by first | (with_reducible assumption) | assumption)) (by have h_ : ((ji36) : Int) < ((x9_4.length : Int) : Int) := of_decide_eq_true (by first | (with_reducible assumption) | assumption); first | exact h_ | (have e_ := (HN42.out); omega) | simpa using h_))); (try (obtain ⟨_, hfr44⟩ := Kd.H_at HH42.out (of_decide_eq_true (by first | (with_reducible assumption) | assumption)) (by have h_ : ((ji36) : Int) < ((x9_4.length : Int) : Int) := of_decide_eq_true (by first | (with_reducible assumption) | assumption); first | exact h_ | (have e_ := (HN42.out); omega) | simpa using h_))); (try (have hx44_0 := hcc44 0 _ rfl)); (try (have hf44_0 := hfr44 0)); (try (try simp only [Nat.add_zero] at hx44_0 hf44_0)); (try (try rw [show ((Kd.slice 3 (Kd.int .i64))).sz = 1 from rfl, Nat.mul_one] at hx44_0)); (try (try rw [show ((Kd.slice 3 (Kd.int .i64))).sz = 1 from rfl, Nat.mul_one] at hf44_0)); (try (have HP44 := Kd.S_seg0 HH42.out (of_decide_eq_true (by first | (with_reducible assumption) | assumption)) (by have h_ : ((ji36) : Int) < ((x9_4.length : Int) : Int) := of_decide_eq_true (by first | (with_reducible assumption) | assumption); first | exact h_ | (have e_ := (HN42.out); omega) | simpa using h_) (seg := [.slice Ao46 y354.length co46]) (j := 0) (show 1 ≤ 1 from by decide) (x' := y354) (Kd.M_row HO356.out) (fun _ hk => hk))); (try (try simp only [show ((Kd.slice 3 (Kd.int .i64))).sz = 1 from rfl, Nat.mul_one, Nat.add_zero] at HP44)); (try (clear hcc44 hfr44)))); refine store_event (t := 25) (p := 98) (v := ?vo_w45) (w1 := (w43.setCell ⟨go42, ((ji36) : Int).toNat, none⟩ (.slice Ao46 y354.length co46))) ?hg ?ho ?hn ?hr ?_; (case ho => rfl); (case hg => rfl); (case hn => rfl); (case hr => first | (go_simp; done) | (go_simp; rfl)); intro w45 hw; have hg : w43.grownBy w45 (some go42) := (by rw [hw]; exact HP44.2); have hp_ : Kd.S (Kd.slice 3 (Kd.int .i64)) 25 w45 w.heap.size (fun _ => True) (.slice (some ⟨go42, 0, none⟩) x9_4.length co41) y357 := (by rw [hw, Ny357.out]; exact HP44.1); clear HP44; have n0_ := Aside0.mk ((by rw [hw]; exact below_set HB.out GB42.out : Below w.heap.size w w45)); have n1_ := Aside0.mk (hp_); clear HB; clear HO356; clear HH42; have HB := n0_; have HO_9 := n1_; clear n0_ n1_; clear hg hw hp_ hraw44)))
                                    go_roundg k4
                                    case measure => have := HJ3.out; have := HJ25.out; have := HK3.out; have := HK4.out; omega
                                    case rel => exact ⟨(y357), (wrap64 (x11_4 + 1)), (by first | rfl | (simp; done) | (simp [*]; done)), H', ⟨by have := HJ3.out; have := HJ25.out; have := HK3.out; have := HK4.out; omega⟩, ⟨by (with_reducible repeat (first | apply Kd.S_alloc | apply Kd.S_drewN | apply Kd.S_drew)); first | exact HO_9.out | exact Kd.R_mono HO_9.out (fun k_ h_ => ne_own_len h_)⟩, ⟨by repeat (first | (with_reducible first | exact HB.out | apply below_alloc | apply pw_below_drewN | apply below_drew1) | exact HB.out)⟩⟩
                                  · rw [if_neg c39] at H
                                    exact absurd H (by simp)
                                · rw [if_neg c38] at H
                                  exact absurd H (by simp)
                              · rw [if_neg c37] at H
                                exact absurd H (by simp)
                          · rw [if_neg c34] at H
                            have c34b0 : decide (x11_4 < x8_25) = false := decide_eq_false c34
                            clear c34
                            have H' := Aside0.mk H
                            clear H
                            go_wp2
                            repeat (go_quiet (fail); try go_wp2)
                            go_roundg k4
                            case measure => have := HJ3.out; have := HJ25.out; have := HK3.out; have := HK4.out; omega
                            case rel => exact ⟨(x9_4), (wrap64 (x10_3 + 1)), (by first | rfl | (simp; done) | (simp [*]; done)), H', ⟨by have := HJ3.out; have := HJ25.out; have := HK3.out; have := HK4.out; omega⟩, ⟨by (with_reducible repeat (first | apply Kd.S_alloc | apply Kd.S_drewN | apply Kd.S_drew)); first | exact HO_9.out | exact Kd.R_mono HO_9.out (fun k_ h_ => ne_own_len h_)⟩, ⟨by repeat (first | (with_reducible first | exact HB.out | apply below_alloc | apply pw_below_drewN | apply below_drew1) | exact HB.out)⟩⟩
                    · rw [if_neg c33] at H
                      have c33b0 : decide (x10_3 < a2) = false := decide_eq_false c33
                      clear c33
                      simp only [Option.some.injEq, Prod.mk.injEq] at H
                      obtain ⟨rfl, rfl⟩ := H
                      go_wp2
                      repeat (go_quiet (fail); try go_wp2)
                      go_ret2
                      exact ⟨_, by first | rfl | (simp [errW_none, errW_some] <;> rfl) | (simp only [← hji28]; first | rfl | (simp [errW_none, errW_some] <;> rfl)) | (simp [*, errW_none, errW_some] <;> rfl), by (with_reducible repeat (first | apply Kd.S_alloc | apply Kd.S_drewN | apply Kd.S_drew)); exact HO_9.out, by repeat (first | (with_reducible first | exact HB.out | apply below_alloc | apply pw_below_drewN | apply below_drew1) | exact HB.out)⟩
              · rw [if_neg c30] at H
                exact absurd H (by simp)
            · rw [if_neg c29] at H
              exact absurd H (by simp)

end Go.Proofs.YtglajokjiphafaaDoor.P

namespace Go.Proofs.YtglajokjiphafaaDoor.P
open Go.RowKit Go.Proofs.YtglajokjiphafaaDoorW.PrintWords Go.Proofs.YtglajokjiphafaaDoorW.PrintLast Go.Proofs.YtglajokjiphafaaDoorW.PrintMore
attribute [local go_sem] max2_int min2_int max_two min_two max_three min_three max_four min_four   -- for this text's walks alone
set_option linter.unusedVariables false
set_option linter.unusedSimpArgs false

/-! ### neonwrightref05_Halves: function 35 -/
mutual
def neonwrightref05_Halves.j0 : Nat → Int → Bool → Option ((List (List Int)) × Int)
  | 0, _, _ => none
  | k + 1, x0, x13 => if x13 = true then (some (([] : List (List Int)), 2)) else (neonwrightref05_Halves.l0 k x0 ([] : List (List Int)) 0)
def neonwrightref05_Halves.l0 : Nat → Int → List (List Int) → Int → Option ((List (List Int)) × Int)
  | 0, _, _, _ => none
  | k + 1, x0, x4, x5 => if 0 ≤ x5 then (if (shr .i64 (wrap64 (x0 - 1)) x5) > 0 then (neonwrightref05_Halves.l1 k x0 x4 x5 ([] : List Int) 0) else (some (x4, 0))) else (none)
def neonwrightref05_Halves.l1 : Nat → Int → List (List Int) → Int → List Int → Int → Option ((List (List Int)) × Int)
  | 0, _, _, _, _, _ => none
  | k + 1, x0, x4, x5, x6, x7 => if x7 < x0 then (if 0 ≤ x5 then (if (Int.tmod (shr .i64 x7 x5) 2) = 1 then (if x6.length < 17592186044416 then (neonwrightref05_Halves.l1 k x0 x4 x5 (x6 ++ [x7]) (wrap64 (x7 + 1))) else (none)) else (neonwrightref05_Halves.l1 k x0 x4 x5 x6 (wrap64 (x7 + 1)))) else (none)) else (if x4.length < 5864062014805 then (neonwrightref05_Halves.l0 k x0 (x4 ++ [x6]) (wrap64 (x5 + 1))) else (none))
end
def neonwrightref05_Halves.f (k : Nat) (a0 : Int) : Option ((List (List Int)) × Int) := if a0 < 1 then (neonwrightref05_Halves.j0 k a0 true) else (neonwrightref05_Halves.j0 k a0 (decide (a0 > 49)))
theorem neonwrightref05_Halves.mono_l : ∀ k, (∀ y0 y1, LeO (neonwrightref05_Halves.j0 k y0 y1) (neonwrightref05_Halves.j0 (k + 1) y0 y1)) ∧ (∀ y0 y1 y2, LeO (neonwrightref05_Halves.l0 k y0 y1 y2) (neonwrightref05_Halves.l0 (k + 1) y0 y1 y2)) ∧ (∀ y0 y1 y2 y3 y4, LeO (neonwrightref05_Halves.l1 k y0 y1 y2 y3 y4) (neonwrightref05_Halves.l1 (k + 1) y0 y1 y2 y3 y4))
  | 0 => ⟨fun _ _ r h => by simp [neonwrightref05_Halves.j0] at h, fun _ _ _ r h => by simp [neonwrightref05_Halves.l0] at h, fun _ _ _ _ _ r h => by simp [neonwrightref05_Halves.l1] at h⟩
  | k + 1 => by
    obtain ⟨ih0, ih1, ih2⟩ := neonwrightref05_Halves.mono_l k
    refine ⟨?_, ?_, ?_⟩
    · intro y0 y1
      unfold neonwrightref05_Halves.j0
      repeat' first
      | (with_reducible exact ih0 _ _)
      | (with_reducible exact ih1 _ _ _)
      | (with_reducible exact ih2 _ _ _ _ _)
      | (with_reducible exact LeO.refl _)
      | (with_reducible exact LeO.none _)
      | (with_reducible refine LeO.ite ?_ ?_)
      | (with_reducible refine LeO.bind ?_ (fun _ => ?_))
      | exact ih0 _ _
      | exact ih1 _ _ _
      | exact ih2 _ _ _ _ _
      | exact LeO.none _
      | refine LeO.ite ?_ ?_
      | refine LeO.bind ?_ (fun _ => ?_)
    · intro y0 y1 y2
      unfold neonwrightref05_Halves.l0
      repeat' first
      | (with_reducible exact ih0 _ _)
      | (with_reducible exact ih1 _ _ _)
      | (with_reducible exact ih2 _ _ _ _ _)
      | (with_reducible exact LeO.refl _)
      | (with_reducible exact LeO.none _)
      | (with_reducible refine LeO.ite ?_ ?_)
      | (with_reducible refine LeO.bind ?_ (fun _ => ?_))
      | exact ih0 _ _
      | exact ih1 _ _ _
      | exact ih2 _ _ _ _ _
      | exact LeO.none _
      | refine LeO.ite ?_ ?_
      | refine LeO.bind ?_ (fun _ => ?_)
    · intro y0 y1 y2 y3 y4
      unfold neonwrightref05_Halves.l1
      repeat' first
      | (with_reducible exact ih0 _ _)
      | (with_reducible exact ih1 _ _ _)
      | (with_reducible exact ih2 _ _ _ _ _)
      | (with_reducible exact LeO.refl _)
      | (with_reducible exact LeO.none _)
      | (with_reducible refine LeO.ite ?_ ?_)
      | (with_reducible refine LeO.bind ?_ (fun _ => ?_))
      | exact ih0 _ _
      | exact ih1 _ _ _
      | exact ih2 _ _ _ _ _
      | exact LeO.none _
      | refine LeO.ite ?_ ?_
      | refine LeO.bind ?_ (fun _ => ?_)
theorem neonwrightref05_Halves.mono : ∀ a0 k, LeO (neonwrightref05_Halves.f k a0) (neonwrightref05_Halves.f (k + 1) a0) := by
  intro a0 k
  obtain ⟨ih0, ih1, ih2⟩ := neonwrightref05_Halves.mono_l k
  unfold neonwrightref05_Halves.f
  repeat' first
      | (with_reducible exact ih0 _ _)
      | (with_reducible exact ih1 _ _ _)
      | (with_reducible exact ih2 _ _ _ _ _)
      | (with_reducible exact LeO.refl _)
      | (with_reducible exact LeO.none _)
      | (with_reducible refine LeO.ite ?_ ?_)
      | (with_reducible refine LeO.bind ?_ (fun _ => ?_))
      | exact ih0 _ _
      | exact ih1 _ _ _
      | exact ih2 _ _ _ _ _
      | exact LeO.none _
      | refine LeO.ite ?_ ?_
      | refine LeO.bind ?_ (fun _ => ?_)
set_option maxHeartbeats 8000000 in
set_option maxRecDepth 100000 in
theorem neonwrightref05_Halves.calls (k : Nat) (a0 : Int) (r1 : List (List Int)) (r2 : Int) (w : World) (h : neonwrightref05_Halves.f k a0 = some (r1, r2)) :
    Calls Tryd.prog 35 #[.int .i64 a0] w fun e w' => ∃ v0_ : Value, e = .returned (.tuple #[v0_, .int .i64 r2]) ∧ Kd.S (Kd.slice 3 (Kd.int .i64)) 25 w' w.heap.size (fun _ => True) v0_ r1 ∧ Below w.heap.size w w' := by
  have HB := Aside0.mk (Below.refl w.heap.size w)
  have H : (if a0 < 1 then (neonwrightref05_Halves.j0 k a0 true) else (neonwrightref05_Halves.j0 k a0 (decide (a0 > 49)))) = some (r1, r2) := h
  clear h
  have HC2 := Aside0.mk H
  clear H
  go_enter Tryd.func35, Tryd.ntmps35
  go_upto_region 1 with (fail)
  go_cut [13] (fun v13 wc => ∃ (kq : Nat) (x13_1 : Bool), v13 = .bool x13_1 ∧ Aside0 (neonwrightref05_Halves.j0 kq a0 x13_1 = some (r1, r2)) ∧ Aside0 (kq ≤ k) ∧ Aside0 (Below w.heap.size w wc))
  case first =>
    have H := HC2.out
    clear HC2
    by_cases c3 : a0 < 1
    · rw [if_pos c3] at H
      have c3b0 : decide (a0 < 1) = true := decide_eq_true c3
      clear c3
      (first | rw [c3b0] | (simp only [i64_w, i32_w]; rw [c3b0]) | skip)
      have H' := Aside0.mk H
      clear H
      go_wp2
      go_meet
      case rel => exact ⟨_, (true), (by first | rfl | (simp; done) | (simp [*]; done)), H', ⟨by first | omega | exact Nat.le_refl _⟩, ⟨by repeat (first | (with_reducible first | exact HB.out | apply below_alloc | apply pw_below_drewN | apply below_drew1) | exact HB.out)⟩⟩
    · rw [if_neg c3] at H
      have c3b0 : decide (a0 < 1) = false := decide_eq_false c3
      clear c3
      (first | rw [c3b0] | (simp only [i64_w, i32_w]; rw [c3b0]) | skip)
      have H' := Aside0.mk H
      clear H
      go_wp2
      go_meet
      case rel => exact ⟨_, (decide (a0 > 49)), (by first | rfl | (simp; done) | (simp [*]; done)), H', ⟨by first | omega | exact Nat.le_refl _⟩, ⟨by repeat (first | (with_reducible first | exact HB.out | apply below_alloc | apply pw_below_drewN | apply below_drew1) | exact HB.out)⟩⟩
  case rest =>
    clear HC2
    try clear p2
    try clear c3
    try clear c3b0
    obtain ⟨kq, x13_1, rfl, HA, HJ1, HB⟩ := hcut
    cases kq with
    | zero => exact absurd HA.out (by simp [neonwrightref05_Halves.j0])
    | succ kj1 =>
      have H := HA.out
      clear HA
      simp only [neonwrightref05_Halves.j0] at H
      by_cases c4 : x13_1 = true
      · subst c4
        have H1 : (some (([] : List (List Int)), 2)) = some (r1, r2) := by rw [if_pos rfl] at H; exact H
        clear H
        have H := H1
        clear H1
        simp only [Option.some.injEq, Prod.mk.injEq] at H
        obtain ⟨rfl, rfl⟩ := H
        go_wp2
        go_ret2
        exact ⟨_, by first | rfl | (simp [errW_none, errW_some] <;> rfl) | (simp [*, errW_none, errW_some] <;> rfl), by first | exact Kd.S_nil _ _ _ _ _ | exact Kd.N_nil _ _ _ _ _ | exact Kd.V_nil _ _ _ _ _ | exact Kd.Q_nil _ _ _ _ _ | exact Kd.R_nil _ _ _ _ _, by repeat (first | (with_reducible first | exact HB.out | apply below_alloc | apply pw_below_drewN | apply below_drew1) | exact HB.out)⟩
      · replace c4 := Bool.eq_false_iff.mpr c4
        subst c4
        have H1 : (neonwrightref05_Halves.l0 kj1 a0 ([] : List (List Int)) 0) = some (r1, r2) := by rw [if_neg (show ¬ (false = true) by decide)] at H; exact H
        clear H
        have H := H1
        clear H1
        have H' := Aside0.mk H
        clear H
        go_wp2
        go_loopg [4, 5] kj1 (fun kq v4 v5 w' => ∃ (x4_2 : List (List Int)) (x5_2 : Int), v5 = .int .i64 x5_2 ∧ Aside0 (neonwrightref05_Halves.l0 kq a0 x4_2 x5_2 = some (r1, r2)) ∧ Aside0 (kq ≤ kj1) ∧ Aside0 (Kd.S (Kd.slice 3 (Kd.int .i64)) 25 w' w.heap.size (fun _ => True) v4 x4_2) ∧ Aside0 (Below w.heap.size w w'))
        case atStart => exact ⟨(([] : List (List Int))), (0), (by first | rfl | (simp; done) | (simp [*]; done)), H', ⟨Nat.le_refl _⟩, ⟨by first | exact Kd.S_nil _ _ _ _ _ | exact Kd.N_nil _ _ _ _ _ | exact Kd.V_nil _ _ _ _ _ | exact Kd.Q_nil _ _ _ _ _ | exact Kd.R_nil _ _ _ _ _⟩, ⟨by repeat (first | (with_reducible first | exact HB.out | apply below_alloc | apply pw_below_drewN | apply below_drew1) | exact HB.out)⟩⟩
        case round =>
          clear H'
          try clear p2
          try clear c3
          try clear c3b0
          try clear c4
          try clear p2
          obtain ⟨x4_2, x5_2, rfl, HA, HK2, HO_4, HB⟩ := hrel
          cases gk with
          | zero => exact absurd HA.out (by simp [neonwrightref05_Halves.l0])
          | succ k2 =>
            have H := HA.out
            clear HA
            simp only [neonwrightref05_Halves.l0] at H
            by_cases c5 : 0 ≤ x5_2
            · rw [if_pos c5] at H
              have c5b0 := eq_true c5
              have c5b1 : decide (0 ≤ x5_2) = true := decide_eq_true c5
              clear c5
              obtain ⟨ji6, hji6⟩ : ∃ j_ : Int, (shr .i64 (wrap64 (a0 - 1)) x5_2) = j_ := ⟨_, rfl⟩
              replace H : (if (ji6) > 0 then (neonwrightref05_Halves.l1 k2 a0 x4_2 x5_2 ([] : List Int) 0) else (some (x4_2, 0))) = some (r1, r2) := by first | (rw [hji6] at H; exact H) | (simp only [hji6] at H ⊢; exact H)
              have hji6_ : ((wrap64 (a0 - 1)) / 2 ^ min x5_2.toNat 64) = ji6 := hji6
              have hji6z : x5_2 ≤ 64 → ((wrap64 (a0 - 1)) / 2 ^ x5_2.toNat) = ji6 := shr_small hji6
              by_cases c7 : (ji6) > 0
              · rw [if_pos c7] at H
                have c7b0 : decide (0 < (ji6)) = true := decide_eq_true c7
                clear c7
                have H' := Aside0.mk H
                clear H
                go_wp2
                go_loopg [6, 7] k2 (fun kq v6 v7 w' => ∃ (x6_3 : List Int) (x7_3 : Int), v7 = .int .i64 x7_3 ∧ Aside0 (neonwrightref05_Halves.l1 kq a0 x4_2 x5_2 x6_3 x7_3 = some (r1, r2)) ∧ Aside0 (kq ≤ k2) ∧ Aside0 (Kd.S (Kd.slice 3 (Kd.int .i64)) 25 w' w.heap.size (fun k_ => some k_ ≠ (v6 : Value).ownBlock) u4 x4_2) ∧ Aside0 (Kd.R (Kd.int .i64) 3 w' w.heap.size (fun _ => True) v6 x6_3) ∧ Aside0 (Below w.heap.size w w'))
                case atStart => exact ⟨(([] : List Int)), (0), (by first | rfl | (simp; done) | (simp [*]; done)), H', ⟨Nat.le_refl _⟩, ⟨by (with_reducible repeat (first | apply Kd.S_alloc | apply Kd.S_drewN | apply Kd.S_drew)); exact Kd.S_mono HO_4.out (fun _ hk => (by simp [Value.ownBlock]))⟩, ⟨by first | exact Kd.R_nil _ _ _ _ _ | exact Kd.N_nil _ _ _ _ _ | exact Kd.V_nil _ _ _ _ _ | exact Kd.Q_nil _ _ _ _ _ | exact Kd.S_nil _ _ _ _ _⟩, ⟨by repeat (first | (with_reducible first | exact HB.out | apply below_alloc | apply pw_below_drewN | apply below_drew1) | exact HB.out)⟩⟩
                case round =>
                  clear H'
                  try clear p2
                  try clear c3
                  try clear c3b0
                  try clear c4
                  try clear c5
                  try clear c5b0
                  try clear c5b1
                  try clear p6
                  try clear c7
                  try clear c7b0
                  try clear p2
                  obtain ⟨x6_3, x7_3, rfl, HA, HK3, HO_4, HO_6, HB⟩ := hrel
                  cases gk with
                  | zero => exact absurd HA.out (by simp [neonwrightref05_Halves.l1])
                  | succ k3 =>
                    have H := HA.out
                    clear HA
                    simp only [neonwrightref05_Halves.l1] at H
                    by_cases c8 : x7_3 < a0
                    · rw [if_pos c8] at H
                      have c8b0 : decide (x7_3 < a0) = true := decide_eq_true c8
                      clear c8
                      by_cases c9 : 0 ≤ x5_2
                      · rw [if_pos c9] at H
                        have c9b0 := eq_true c9
                        have c9b1 : decide (0 ≤ x5_2) = true := decide_eq_true c9
                        clear c9
                        obtain ⟨ji10, hji10⟩ : ∃ j_ : Int, (shr .i64 x7_3 x5_2) = j_ := ⟨_, rfl⟩
                        replace H : (if (Int.tmod (ji10) 2) = 1 then (if x6_3.length < 17592186044416 then (neonwrightref05_Halves.l1 k3 a0 x4_2 x5_2 (x6_3 ++ [x7_3]) (wrap64 (x7_3 + 1))) else (none)) else (neonwrightref05_Halves.l1 k3 a0 x4_2 x5_2 x6_3 (wrap64 (x7_3 + 1)))) = some (r1, r2) := by first | (rw [hji10] at H; exact H) | (simp only [hji10] at H ⊢; exact H)
                        have hji10_ : (x7_3 / 2 ^ min x5_2.toNat 64) = ji10 := hji10
                        have hji10z : x5_2 ≤ 64 → (x7_3 / 2 ^ x5_2.toNat) = ji10 := shr_small hji10
                        by_cases c11 : (Int.tmod (ji10) 2) = 1
                        · rw [if_pos c11] at H
                          have c11b0 : ((Int.tmod (ji10) 2) == 1) = true := beq_iff_eq.mpr c11
                          have c11b1 : ((Int.tmod (ji10) 2) != 1) = false := bne_eq_false_iff_eq.mpr c11
                          clear c11
                          by_cases c12 : x6_3.length < 17592186044416
                          · rw [if_pos c12] at H
                            have LMc12 := Aside0.mk c12
                            clear c12
                            obtain ⟨y367, hy367⟩ : ∃ y_ : List Int, y_ = (x6_3 ++ [x7_3]) := ⟨_, rfl⟩
                            replace H : (neonwrightref05_Halves.l1 k3 a0 x4_2 x5_2 y367 (wrap64 (x7_3 + 1))) = some (r1, r2) := by first | (rw [hy367]; with_reducible exact H) | (have H2_ := (Option.bind_some _ _).symm.trans H; rw [hy367]; with_reducible exact H2_) | (have H2_ := (Option.bind_some _ _).symm.trans H; with_reducible exact H2_) | with_reducible exact H | (rw [hy367]; exact H) | exact H
                            have Ny367 := Aside0.mk hy367
                            clear hy367
                            have H' := Aside0.mk H
                            clear H
                            go_wp2_with (first | ((with_reducible refine gate_builtin (b := .append) (xs := #[.tmp 31, .tmp 33]) rfl ?_); at_builtin; refine Kd.R_append (Kd.int .i64) (w0 := w) w.heap.size rfl (.tmp 31) (.tmp 33) 25 3 (.int .i64 0) 8 rfl Tryd.underlying25 info3 rfl (by decide) (by omega) u6 x6_3 x7_3 [.int .i64 x7_3] (fun _ => True) (fun _ => False) rfl rfl ?aP (fun _ hk => hk.elim) ?aF ?aO ?aB ?aS ?aL ?_; (case aP => exact rfl); (case aB => exact (by repeat (first | (with_reducible first | exact HB.out | apply below_alloc | apply pw_below_drewN | apply below_drew1) | exact HB.out))); (case aF => exact (fun _ _ => trivial)); (case aO => exact (by (with_reducible repeat (first | apply Kd.R_alloc | apply Kd.R_drewN | apply Kd.R_drew)); exact HO_6.out)); (case aS => exact (below_size (by repeat (first | (with_reducible first | exact HB.out | apply below_alloc | apply pw_below_drewN | apply below_drew1) | exact HB.out)))); (case aL => have := LMc12.out; omega); intro v368 w13 ho hb hg hat; rw [← Ny367.out] at ho; have n0_ := Aside0.mk (Kd.S_after (ok := (fun _ => True)) (by (with_reducible repeat (first | apply Kd.S_alloc | apply Kd.S_drewN | apply Kd.S_drew)); exact Kd.S_mono HO_4.out (fun _ hk => ⟨trivial, hk⟩)) hg hat); have n1_ := Aside0.mk (hb); have n2_ := Aside0.mk (ho); clear HO_4; clear HB; clear HO_6; have HO_4 := n0_; have HB := n1_; have HO369 := n2_; clear n0_ n1_ n2_; clear ho hb hg hat))
                            go_roundg k3
                            case measure => have := HJ1.out; have := HK2.out; have := HK3.out; omega
                            case rel => exact ⟨(y367), (wrap64 (x7_3 + 1)), (by first | rfl | (simp; done) | (simp [*]; done)), H', ⟨by have := HJ1.out; have := HK2.out; have := HK3.out; omega⟩, ⟨by (with_reducible repeat (first | apply Kd.S_alloc | apply Kd.S_drewN | apply Kd.S_drew)); exact Kd.S_mono HO_4.out (fun _ hk => hk.2)⟩, ⟨by (with_reducible repeat (first | apply Kd.R_alloc | apply Kd.R_drewN | apply Kd.R_drew)); first | exact HO369.out | exact Kd.R_mono HO369.out (fun k_ h_ => ne_own_len h_)⟩, ⟨by repeat (first | (with_reducible first | exact HB.out | apply below_alloc | apply pw_below_drewN | apply below_drew1) | exact HB.out)⟩⟩
                          · rw [if_neg c12] at H
                            exact absurd H (by simp)
                        · rw [if_neg c11] at H
                          have c11b0 : ((Int.tmod (ji10) 2) == 1) = false := beq_eq_false_iff_ne.mpr c11
                          have c11b1 : ((Int.tmod (ji10) 2) != 1) = true := bne_iff_ne.mpr c11
                          have H' := Aside0.mk H
                          clear H
                          go_wp2
                          go_roundg k3
                          case measure => have := HJ1.out; have := HK2.out; have := HK3.out; omega
                          case rel => exact ⟨(x6_3), (wrap64 (x7_3 + 1)), (by first | rfl | (simp; done) | (simp [*]; done)), H', ⟨by have := HJ1.out; have := HK2.out; have := HK3.out; omega⟩, ⟨by (with_reducible repeat (first | apply Kd.S_alloc | apply Kd.S_drewN | apply Kd.S_drew)); first | exact HO_4.out | exact Kd.R_mono HO_4.out (fun k_ h_ => ne_own_len h_)⟩, ⟨by (with_reducible repeat (first | apply Kd.R_alloc | apply Kd.R_drewN | apply Kd.R_drew)); first | exact HO_6.out | exact Kd.R_mono HO_6.out (fun k_ h_ => ne_own_len h_)⟩, ⟨by repeat (first | (with_reducible first | exact HB.out | apply below_alloc | apply pw_below_drewN | apply below_drew1) | exact HB.out)⟩⟩
                      · rw [if_neg c9] at H
                        exact absurd H (by simp)
                    · rw [if_neg c8] at H
                      have c8b0 : decide (x7_3 < a0) = false := decide_eq_false c8
                      clear c8
                      by_cases c14 : x4_2.length < 5864062014805
                      · rw [if_pos c14] at H
                        have LMc14 := Aside0.mk c14
                        clear c14
                        obtain ⟨y370, hy370⟩ : ∃ y_ : List (List Int), y_ = (x4_2 ++ [x6_3]) := ⟨_, rfl⟩
                        replace H : (neonwrightref05_Halves.l0 k3 a0 y370 (wrap64 (x5_2 + 1))) = some (r1, r2) := by first | (rw [hy370]; with_reducible exact H) | (have H2_ := (Option.bind_some _ _).symm.trans H; rw [hy370]; with_reducible exact H2_) | (have H2_ := (Option.bind_some _ _).symm.trans H; with_reducible exact H2_) | with_reducible exact H | (rw [hy370]; exact H) | exact H
                        have Ny370 := Aside0.mk hy370
                        clear hy370
                        have H' := Aside0.mk H
                        clear H
                        obtain ⟨Ao16, co16, eo16⟩ := Kd.R_slice HO_6.out
                        subst eo16
                        go_wp2_with (first | ((with_reducible refine gate_builtin (b := .append) (xs := #[.tmp 35, .tmp 37]) rfl ?_); at_builtin; refine Kd.S_append (Kd.slice 3 (Kd.int .i64)) (w0 := w) w.heap.size rfl (.tmp 35) (.tmp 37) 22 25 (.slice none 0 0) 24 rfl Tryd.underlying22 info25 rfl (by decide) (by omega) u4 x4_2 x6_3 [.slice Ao16 x6_3.length co16] (fun _ => True) (fun k_ => some k_ = (.slice Ao16 x6_3.length co16 : Value).ownBlock) rfl rfl ?aP (fun k_ hk_ => ((Kd.R_mono (ok' := fun k_ => ((fun _ => True)) k_ ∧ some k_ ≠ (u4 : Value).ownBlock) (Kd.R_apart' (HO_6.out) (Kd.S_typed HO_4.out) (by decide)) (fun k_ hk => ⟨trivial, hk.2⟩))).1 k_ hk_.symm) ?aF ?aO ?aB ?aS ?aL ?_; (case aP => exact Kd.M_row (Kd.R_mono (Kd.R_tight rfl (Kd.R_mono (ok' := fun k_ => ((fun _ => True)) k_ ∧ some k_ ≠ (u4 : Value).ownBlock) (Kd.R_apart' (HO_6.out) (Kd.S_typed HO_4.out) (by decide)) (fun k_ hk => ⟨trivial, hk.2⟩))) (fun _ h_ => h_))); (case aB => exact (by repeat (first | (with_reducible first | exact HB.out | apply below_alloc | apply pw_below_drewN | apply below_drew1) | exact HB.out))); (case aF => exact (fun _ _ => trivial)); (case aO => exact (by (with_reducible repeat (first | apply Kd.S_alloc | apply Kd.S_drewN | apply Kd.S_drew)); exact Kd.S_mono HO_4.out (fun k_ hk => ⟨trivial, fun e_ => hk e_⟩))); (case aS => exact (below_size (by repeat (first | (with_reducible first | exact HB.out | apply below_alloc | apply pw_below_drewN | apply below_drew1) | exact HB.out)))); (case aL => have := LMc14.out; omega); intro v371 w15 ho hb hg hat; rw [← Ny370.out] at ho; have n0_ := Aside0.mk (hb); have n1_ := Aside0.mk (ho); clear HB; clear HO_4; clear HO_6; have HB := n0_; have HO372 := n1_; clear n0_ n1_; clear ho hb hg hat))
                        go_roundg k3
                        case measure => have := HJ1.out; have := HK2.out; have := HK3.out; omega
                        case rel => exact ⟨(y370), (wrap64 (x5_2 + 1)), (by first | rfl | (simp; done) | (simp [*]; done)), H', ⟨by have := HJ1.out; have := HK2.out; have := HK3.out; omega⟩, ⟨by (with_reducible repeat (first | apply Kd.S_alloc | apply Kd.S_drewN | apply Kd.S_drew)); first | exact HO372.out | exact Kd.R_mono HO372.out (fun k_ h_ => ne_own_len h_)⟩, ⟨by repeat (first | (with_reducible first | exact HB.out | apply below_alloc | apply pw_below_drewN | apply below_drew1) | exact HB.out)⟩⟩
                      · rw [if_neg c14] at H
                        exact absurd H (by simp)
              · rw [if_neg c7] at H
                have c7b0 : decide (0 < (ji6)) = false := decide_eq_false c7
                clear c7
                simp only [Option.some.injEq, Prod.mk.injEq] at H
                obtain ⟨rfl, rfl⟩ := H
                go_wp2
                go_ret2
                exact ⟨_, by first | rfl | (simp [errW_none, errW_some] <;> rfl) | (simp only [← hji6]; first | rfl | (simp [errW_none, errW_some] <;> rfl)) | (simp [*, errW_none, errW_some] <;> rfl), by (with_reducible repeat (first | apply Kd.S_alloc | apply Kd.S_drewN | apply Kd.S_drew)); exact HO_4.out, by repeat (first | (with_reducible first | exact HB.out | apply below_alloc | apply pw_below_drewN | apply below_drew1) | exact HB.out)⟩
            · rw [if_neg c5] at H
              exact absurd H (by simp)

end Go.Proofs.YtglajokjiphafaaDoor.P

set_option linter.unusedSimpArgs false
set_option linter.unusedVariables false
namespace Go.Proofs.YtglajokjiphafaaDoor.P
open Go.Lib Go.RowKit Go.Proofs.YtglajokjiphafaaDoorW.PrintWords Go.Proofs.YtglajokjiphafaaDoorW.PrintLast Go.Proofs.YtglajokjiphafaaDoorW.PrintMore Go.Proofs.YtglajokjiphafaaDoor.Kit

def kzQ (i : Nat) : Int := if i = 0 then 2 else if i = 1 then 3 else if i = 2 then 5 else 7
def smallB (b : Nat) (l : List (List Int)) : Bool := l.all (fun x => decide (b ≤ x.length) && decide (x.length ≤ 100)) && decide (l.length ≤ 100)
def kzChk (i k r : Nat) : Bool := match find_Kautz.f 2000 (kzQ i) ((k + 1 : Nat) : Int) ((r + 1 : Nat) : Int) with
  | some (l, e) => decide (neonwrightref05_Kautz.f 2000 (kzQ i) ((k + 1 : Nat) : Int) ((r + 1 : Nat) : Int) = some (l, e)) && smallB 1 l
  | none => false
theorem kz_all : ∀ i : Nat, i < 4 → ∀ k : Nat, k < 2 → ∀ r : Nat, r < 7 → (!decide (((r + 1 : Nat) : Int) ≤ kzQ i) || kzChk i k r) = true := by decide +kernel
def hvChk (j : Nat) : Bool := match find_Halves.f 600 ((j + 1 : Nat) : Int) with
  | some (l, e) => decide (neonwrightref05_Halves.f 600 ((j + 1 : Nat) : Int) = some (l, e)) && smallB 0 l
  | none => false
theorem hv_all : ∀ j : Nat, j < 49 → hvChk j = true := by decide +kernel
theorem smallB_of {b : Nat} {l : List (List Int)} (h : smallB b l = true) : l.length ≤ 100 ∧ ∀ x ∈ l, b ≤ x.length ∧ x.length ≤ 100 := by
  unfold smallB at h
  rw [Bool.and_eq_true, decide_eq_true_eq, List.all_eq_true] at h
  refine ⟨h.2, fun x hx => ?_⟩
  have := h.1 x hx
  rw [Bool.and_eq_true, decide_eq_true_eq, decide_eq_true_eq] at this
  exact this
theorem kautz_val (q k r : Int) : ∃ (l : List (List Int)) (e : Int), (∃ n, find_Kautz.f n q k r = some (l, e)) ∧ (∃ n, neonwrightref05_Kautz.f n q k r = some (l, e)) ∧ l.length ≤ 100 ∧ ∀ x ∈ l, 1 ≤ x.length ∧ x.length ≤ 100 := by
  by_cases h : (q = 2 ∨ q = 3 ∨ q = 5 ∨ q = 7) ∧ 1 ≤ k ∧ k ≤ 2 ∧ 1 ≤ r ∧ r ≤ q
  · obtain ⟨i, hi, rfl⟩ : ∃ i : Nat, i < 4 ∧ q = kzQ i := by
      rcases h.1 with h | h | h | h
      · exact ⟨0, by decide, h⟩
      · exact ⟨1, by decide, h⟩
      · exact ⟨2, by decide, h⟩
      · exact ⟨3, by decide, h⟩
    obtain ⟨k', rfl⟩ : ∃ k' : Nat, k = ((k' + 1 : Nat) : Int) := ⟨(k - 1).toNat, by omega⟩
    obtain ⟨r', rfl⟩ : ∃ r' : Nat, r = ((r' + 1 : Nat) : Int) := ⟨(r - 1).toNat, by omega⟩
    have hq : kzQ i ≤ 7 := by have : ∀ i : Nat, i < 4 → kzQ i ≤ 7 := by decide
                              exact this i hi
    have h1 := kz_all i hi k' (by omega) r' (by omega)
    rw [decide_eq_true h.2.2.2.2, Bool.not_true, Bool.false_or] at h1
    unfold kzChk at h1
    split at h1
    · rename_i l e hf
      rw [Bool.and_eq_true, decide_eq_true_eq] at h1
      have h2 := smallB_of h1.2
      exact ⟨l, e, ⟨_, hf⟩, ⟨_, h1.1⟩, h2.1, h2.2⟩
    · cases h1
  · refine ⟨[], 2, ⟨1, ?_⟩, ⟨1, ?_⟩, by simp, fun x hx => by cases hx⟩
    · unfold find_Kautz.f
      repeat' split
      all_goals first | (simp only [find_Kautz.j0]; rfl) | (rw [decide_eq_true (by omega)]; simp only [find_Kautz.j0]; rfl)
    · unfold neonwrightref05_Kautz.f
      repeat' split
      all_goals first | (simp only [neonwrightref05_Kautz.j0]; rfl) | (exfalso; omega)
theorem halves_val (n : Int) : ∃ (l : List (List Int)) (e : Int), (∃ k, find_Halves.f k n = some (l, e)) ∧ (∃ k, neonwrightref05_Halves.f k n = some (l, e)) ∧ l.length ≤ 100 ∧ ∀ x ∈ l, x.length ≤ 100 := by
  by_cases h : 1 ≤ n ∧ n ≤ 49
  · obtain ⟨j, rfl⟩ : ∃ j : Nat, n = ((j + 1 : Nat) : Int) := ⟨(n - 1).toNat, by omega⟩
    have h1 := hv_all j (by omega)
    unfold hvChk at h1
    split at h1
    · rename_i l e hf
      rw [Bool.and_eq_true, decide_eq_true_eq] at h1
      have h2 := smallB_of h1.2
      exact ⟨l, e, ⟨_, hf⟩, ⟨_, h1.1⟩, h2.1, fun x hx => (h2.2 x hx).2⟩
    · cases h1
  · refine ⟨[], 2, ⟨1, ?_⟩, ⟨1, ?_⟩, by simp, fun x hx => by cases hx⟩
    · unfold find_Halves.f
      by_cases h1 : n < 1
      · rw [if_pos h1]; simp only [find_Halves.j0]; rfl
      · rw [if_neg h1, decide_eq_true (by omega)]; simp only [find_Halves.j0]; rfl
    · unfold neonwrightref05_Halves.f
      by_cases h1 : n < 1
      · rw [if_pos h1]; simp only [neonwrightref05_Halves.j0]; rfl
      · rw [if_neg h1, decide_eq_true (by omega)]; simp only [neonwrightref05_Halves.j0]; rfl
end Go.Proofs.YtglajokjiphafaaDoor.P

namespace Go.Proofs.YtglajokjiphafaaDoor.P
open Go.RowKit Go.Proofs.YtglajokjiphafaaDoorW.PrintWords Go.Proofs.YtglajokjiphafaaDoorW.PrintLast Go.Proofs.YtglajokjiphafaaDoorW.PrintMore
attribute [local go_sem] max2_int min2_int max_two min_two max_three min_three max_four min_four   -- for this text's walks alone
set_option linter.unusedVariables false
set_option linter.unusedSimpArgs false

/-! ### neonwrightlaw05_few: function 16 -/
def neonwrightlaw05_few.l0 : Nat → List (List Int) → Int → Option (Bool)
  | 0, _, _ => none
  | k + 1, x0, x3 => if x3 < (x0.length : Int) then (if x3 ≥ 80 then (some false) else (if 0 ≤ x3 then (if ((rd_L1 x0 x3).length : Int) > 80 then (some false) else (neonwrightlaw05_few.l0 k x0 (wrap64 (x3 + 1)))) else (none))) else (some true)
def neonwrightlaw05_few.f (k : Nat) (l0 : List (List Int)) : Option (Bool) := neonwrightlaw05_few.l0 k l0 0
theorem neonwrightlaw05_few.mono_l : ∀ k, (∀ y0 y1, LeO (neonwrightlaw05_few.l0 k y0 y1) (neonwrightlaw05_few.l0 (k + 1) y0 y1))
  | 0 => fun _ _ r h => by simp [neonwrightlaw05_few.l0] at h
  | k + 1 => by
    have ih0 := neonwrightlaw05_few.mono_l k
    · intro y0 y1
      unfold neonwrightlaw05_few.l0
      repeat' first
      | (with_reducible exact ih0 _ _)
      | (with_reducible exact LeO.refl _)
      | (with_reducible exact LeO.none _)
      | (with_reducible refine LeO.ite ?_ ?_)
      | (with_reducible refine LeO.bind ?_ (fun _ => ?_))
      | exact ih0 _ _
      | exact LeO.none _
      | refine LeO.ite ?_ ?_
      | refine LeO.bind ?_ (fun _ => ?_)
theorem neonwrightlaw05_few.mono : ∀ a0 k, LeO (neonwrightlaw05_few.f k a0) (neonwrightlaw05_few.f (k + 1) a0) := by
  intro a0 k
  have ih0 := neonwrightlaw05_few.mono_l k
  unfold neonwrightlaw05_few.f
  repeat' first
      | (with_reducible exact ih0 _ _)
      | (with_reducible exact LeO.refl _)
      | (with_reducible exact LeO.none _)
      | (with_reducible refine LeO.ite ?_ ?_)
      | (with_reducible refine LeO.bind ?_ (fun _ => ?_))
      | exact ih0 _ _
      | exact LeO.none _
      | refine LeO.ite ?_ ?_
      | refine LeO.bind ?_ (fun _ => ?_)
set_option maxHeartbeats 8000000 in
set_option maxRecDepth 100000 in
theorem neonwrightlaw05_few.calls (k : Nat) (A0 : Option Addr) (c0 : Nat) (l0 : List (List Int)) (r : Bool) (w : World) (hr0 : Kd.C (Kd.slice 3 (Kd.int .i64)) w A0 l0.length l0) (hc0 : l0.length ≤ c0) (h : neonwrightlaw05_few.f k l0 = some r) :
    Calls Tryd.prog 16 #[.slice A0 l0.length c0] w fun e w' => e = .returned (.bool r) ∧ Drawn0 w w' := by
  have HR0 := Aside0.mk hr0
  have HC0 := Aside0.mk hc0
  clear hr0 hc0
  have H : (neonwrightlaw05_few.l0 k l0 0) = some r := h
  clear h
  have H' := Aside0.mk H
  clear H
  go_enter Tryd.func16, Tryd.ntmps16
  go_wp2
  go_loopg [3] k (fun kq v3 w' => ∃ (x3_1 : Int), v3 = .int .i64 x3_1 ∧ Aside0 (neonwrightlaw05_few.l0 kq l0 x3_1 = some r) ∧ Aside0 (kq ≤ k) ∧ Drawn0 w w')
  case atStart => exact ⟨(0), (by first | rfl | (simp; done) | (simp [*]; done)), H', ⟨Nat.le_refl _⟩, by repeat (first | exact Drawn0.refl _ | apply Drawn0.step)⟩
  case round =>
    clear H'
    try clear c1
    obtain ⟨x3_1, rfl, HA, HK1, ⟨m1, rfl⟩⟩ := hrel
    cases gk with
    | zero => exact absurd HA.out (by simp [neonwrightlaw05_few.l0])
    | succ k1 =>
      have H := HA.out
      clear HA
      simp only [neonwrightlaw05_few.l0] at H
      by_cases c2 : x3_1 < (l0.length : Int)
      · rw [if_pos c2] at H
        have c2b0 : decide (x3_1 < (l0.length : Int)) = true := decide_eq_true c2
        clear c2
        by_cases c3 : x3_1 ≥ 80
        · rw [if_pos c3] at H
          have c3b0 : decide (80 ≤ x3_1) = true := decide_eq_true c3
          clear c3
          obtain rfl := Option.some.inj H
          go_wp2
          go_ret
          exact ⟨by first | rfl | (simp; done) | (simp [*]; done), by repeat (first | exact Drawn0.refl _ | apply Drawn0.step)⟩
        · rw [if_neg c3] at H
          have c3b0 : decide (80 ≤ x3_1) = false := decide_eq_false c3
          clear c3
          by_cases c4 : 0 ≤ x3_1
          · rw [if_pos c4] at H
            have c4b0 : decide (0 ≤ x3_1) = true := decide_eq_true c4
            clear c4
            by_cases c5 : ((rd_L1 l0 x3_1).length : Int) > 80
            · rw [if_pos c5] at H
              have c5b0 : decide (80 < ((rd_L1 l0 x3_1).length : Int)) = true := decide_eq_true c5
              have c5b1 : decide (80 < (rd_L1 l0 x3_1).length) = true := decide_eq_true (by omega)
              clear c5
              obtain rfl := Option.some.inj H
              have p116 : 0 ≤ (x3_1 : Int) := of_decide_eq_true (by first | (with_reducible assumption) | assumption)
              have q116 : x3_1 < (l0.length : Int) := of_decide_eq_true (by first | (with_reducible assumption) | assumption)
              obtain ⟨ad116, A116_0, c116_0, e116, hx116_0, hl116_0, hi116_0⟩ := at_L1 HR0.out x3_1 p116 q116
              cases e116
              have HR116_0 := Aside0.mk hi116_0
              have HC116_0 := Aside0.mk hl116_0
              clear hi116_0 hl116_0
              replace p116 := eq_true p116
              replace q116 := eq_true q116
              go_wp2
              go_ret
              exact ⟨by first | rfl | (simp; done) | (simp [*]; done), by repeat (first | exact Drawn0.refl _ | apply Drawn0.step)⟩
            · rw [if_neg c5] at H
              have c5b0 : decide (80 < ((rd_L1 l0 x3_1).length : Int)) = false := decide_eq_false c5
              have c5b1 : decide (80 < (rd_L1 l0 x3_1).length) = false := decide_eq_false (by omega)
              clear c5
              have H' := Aside0.mk H
              clear H
              have p116 : 0 ≤ (x3_1 : Int) := of_decide_eq_true (by first | (with_reducible assumption) | assumption)
              have q116 : x3_1 < (l0.length : Int) := of_decide_eq_true (by first | (with_reducible assumption) | assumption)
              obtain ⟨ad116, A116_0, c116_0, e116, hx116_0, hl116_0, hi116_0⟩ := at_L1 HR0.out x3_1 p116 q116
              cases e116
              have HR116_0 := Aside0.mk hi116_0
              have HC116_0 := Aside0.mk hl116_0
              clear hi116_0 hl116_0
              replace p116 := eq_true p116
              replace q116 := eq_true q116
              go_wp2
              go_roundg k1
              case measure => have := HK1.out; omega
              case rel => exact ⟨(wrap64 (x3_1 + 1)), (by first | rfl | (simp; done) | (simp [*]; done)), H', ⟨by have := HK1.out; omega⟩, by repeat (first | exact Drawn0.refl _ | apply Drawn0.step)⟩
          · rw [if_neg c4] at H
            exact absurd H (by simp)
      · rw [if_neg c2] at H
        have c2b0 : decide (x3_1 < (l0.length : Int)) = false := decide_eq_false c2
        clear c2
        obtain rfl := Option.some.inj H
        go_wp2
        go_ret
        exact ⟨by first | rfl | (simp; done) | (simp [*]; done), by repeat (first | exact Drawn0.refl _ | apply Drawn0.step)⟩

end Go.Proofs.YtglajokjiphafaaDoor.P

set_option linter.unusedSimpArgs false
set_option linter.unusedVariables false
namespace Go.Proofs.YtglajokjiphafaaDoor.P
open Go.Lib Go.RowKit Go.Proofs.YtglajokjiphafaaDoorW.PrintWords Go.Proofs.YtglajokjiphafaaDoorW.PrintLast Go.Proofs.YtglajokjiphafaaDoorW.PrintMore Go.Proofs.YtglajokjiphafaaDoor.Kit

theorem alive_ev : Ev (fun k => neonwrightlaw05_alive.f k) true := by
  obtain ⟨k, hk⟩ := neonwrightlaw05_alive.tells
  exact Ev.of neonwrightlaw05_alive.mono hk
theorem same_l0 (l : List Int) (hl : l.length ≤ 4611686018427387904) : ∀ m i, l.length - i = m → i ≤ l.length → Ev (fun k => neonwrightlaw05_same.l0 k l l (i : Int)) true := by
  intro m
  induction m with
  | zero =>
    intro i hm hi
    refine Ev.step (fun k => ?_) (Ev.now true)
    simp only [neonwrightlaw05_same.l0]
    rw [if_neg (by omega)]
  | succ m ih =>
    intro i hm hi
    refine Ev.step (fun k => ?_) (ih (i + 1) (by omega) (by omega))
    simp only [neonwrightlaw05_same.l0]
    rw [if_pos (by omega), if_pos (by omega), if_pos (by omega), if_pos trivial, wrap1 (by omega)]
theorem same_refl (l : List Int) (hl : l.length ≤ 4611686018427387904) : Ev (fun k => neonwrightlaw05_same.f k l l) true := by
  refine Ev.congr (f := fun k => neonwrightlaw05_same.l0 k l l ((0 : Nat) : Int)) (fun k => ?_) (same_l0 l hl l.length 0 (by omega) (by omega))
  unfold neonwrightlaw05_same.f
  rw [if_pos rfl]
  rfl
theorem few_l0 (d : List (List Int)) : ∀ m i, 81 - i = m → i ≤ 80 → i ≤ d.length → (∀ j (hj : j < d.length), j < i → (d[j]).length ≤ 80) → ∃ b, Ev (fun k => neonwrightlaw05_few.l0 k d (i : Int)) b ∧ (b = true → d.length ≤ 80 ∧ ∀ r ∈ d, r.length ≤ 80) := by
  intro m
  induction m with
  | zero => intro i hm hi; omega
  | succ m ih =>
    intro i hm hi hid hp
    by_cases h1 : i < d.length
    · by_cases h2 : i = 80
      · refine ⟨false, Ev.step (fun k => ?_) (Ev.now false), fun h => by cases h⟩
        simp only [neonwrightlaw05_few.l0]
        rw [if_pos (by omega), if_pos (by omega)]
      · by_cases h3 : (d[i]).length ≤ 80
        · obtain ⟨b, hb, hs⟩ := ih (i + 1) (by omega) (by omega) (by omega) (fun j hj hji => by
            by_cases e : j = i
            · subst e; exact h3
            · exact hp j hj (by omega))
          refine ⟨b, Ev.step (fun k => ?_) hb, hs⟩
          simp only [neonwrightlaw05_few.l0]
          rw [if_pos (by omega), if_neg (by omega), if_pos (by omega), rdL_get d i h1, if_neg (by omega), wrap1 (by omega)]
        · refine ⟨false, Ev.step (fun k => ?_) (Ev.now false), fun h => by cases h⟩
          simp only [neonwrightlaw05_few.l0]
          rw [if_pos (by omega), if_neg (by omega), if_pos (by omega), rdL_get d i h1, if_pos (by omega)]
    · refine ⟨true, Ev.step (fun k => ?_) (Ev.now true), fun _ => ⟨by omega, fun r hr => ?_⟩⟩
      · simp only [neonwrightlaw05_few.l0]
        rw [if_neg (by omega)]
      · obtain ⟨j, hj, rfl⟩ := List.mem_iff_getElem.1 hr
        exact hp j hj (by omega)
theorem few_ev (d : List (List Int)) : ∃ b, Ev (fun k => neonwrightlaw05_few.f k d) b ∧ (b = true → d.length ≤ 80 ∧ ∀ r ∈ d, r.length ≤ 80) :=
  few_l0 d 81 0 (by omega) (by omega) (by omega) (fun j hj h => by omega)
theorem cmb_row (n : Nat) : ∀ m i, ∀ l ∈ cmb n m i, l.length = m := by
  intro m
  induction m with
  | zero => intro i l hl; simp [cmb] at hl; rw [hl]; rfl
  | succ m ih =>
    intro i l hl
    unfold cmb at hl
    obtain ⟨t, _, h2⟩ := List.mem_flatMap.1 hl
    obtain ⟨y, hy, rfl⟩ := List.mem_map.1 h2
    rw [List.length_cons, ih _ y hy]
theorem hidL_length (n : Nat) (d : List (List Int)) (D : Nat) : (hidL n d D).length ≤ D + 1 := by
  unfold hidL
  cases h : (List.range' 0 n).findSome? (hidT n d D) with
  | none => simp
  | some l =>
    obtain ⟨t, _, h1⟩ := List.exists_of_findSome?_eq_some h
    obtain ⟨m, hm, h2⟩ := List.exists_of_findSome?_eq_some h1
    unfold hidM at h2
    obtain ⟨y, hy, rfl⟩ := Option.map_eq_some_iff.1 h2
    have h3 := cmb_row n m 0 y (List.mem_of_find?_eq_some hy)
    have h4 := (List.mem_range'_1.1 hm).2
    show ((t : Int) :: y).length ≤ D + 1
    rw [List.length_cons]
    omega
theorem hidP_length (n : Int) (d : List (List Int)) (D : Int) : (hidP n d D).1.length ≤ 4611686018427387904 := by
  unfold hidP
  split
  · split
    · rename_i h
      have h1 := hidL_length n.toNat d D.toNat
      show (hidL n.toNat d D.toNat).length ≤ _
      omega
    · simp
  · simp
end Go.Proofs.YtglajokjiphafaaDoor.P

namespace Go.Proofs.YtglajokjiphafaaDoor.P
open Go.RowKit Go.Proofs.YtglajokjiphafaaDoorW.PrintWords Go.Proofs.YtglajokjiphafaaDoorW.PrintLast Go.Proofs.YtglajokjiphafaaDoorW.PrintMore
attribute [local go_sem] max2_int min2_int max_two min_two max_three min_three max_four min_four   -- for this text's walks alone
set_option linter.unusedVariables false
set_option linter.unusedSimpArgs false

/-! ### neonwrightlaw05_lists: function 28 -/
def neonwrightlaw05_lists.l0 : Nat → List (List Int) → List (List Int) → Int → Option (Bool)
  | 0, _, _, _ => none
  | k + 1, x0, x1, x5 => if x5 < (x0.length : Int) then (if 0 ≤ x5 then (if x5 < (x1.length : Int) then ((neonwrightlaw05_same.f k (rd_L1 x0 x5) (rd_L1 x1 x5)).bind fun t255 => (if t255 = true then (neonwrightlaw05_lists.l0 k x0 x1 (wrap64 (x5 + 1))) else (some false))) else (none)) else (none)) else (some true)
def neonwrightlaw05_lists.f (k : Nat) (l0 : List (List Int)) (l1 : List (List Int)) : Option (Bool) := if (l0.length : Int) = (l1.length : Int) then (neonwrightlaw05_lists.l0 k l0 l1 0) else (some false)
theorem neonwrightlaw05_lists.mono_l : ∀ k, (∀ y0 y1 y2, LeO (neonwrightlaw05_lists.l0 k y0 y1 y2) (neonwrightlaw05_lists.l0 (k + 1) y0 y1 y2))
  | 0 => fun _ _ _ r h => by simp [neonwrightlaw05_lists.l0] at h
  | k + 1 => by
    have ih0 := neonwrightlaw05_lists.mono_l k
    · intro y0 y1 y2
      unfold neonwrightlaw05_lists.l0
      repeat' first
      | (with_reducible exact ih0 _ _ _)
      | (with_reducible exact neonwrightlaw05_same.mono _ _ _)
      | (with_reducible exact LeO.refl _)
      | (with_reducible exact LeO.none _)
      | (with_reducible refine LeO.ite ?_ ?_)
      | (with_reducible refine LeO.bind ?_ (fun _ => ?_))
      | exact ih0 _ _ _
      | exact neonwrightlaw05_same.mono _ _ _
      | exact LeO.none _
      | refine LeO.ite ?_ ?_
      | refine LeO.bind ?_ (fun _ => ?_)
theorem neonwrightlaw05_lists.mono : ∀ a0 a1 k, LeO (neonwrightlaw05_lists.f k a0 a1) (neonwrightlaw05_lists.f (k + 1) a0 a1) := by
  intro a0 a1 k
  have ih0 := neonwrightlaw05_lists.mono_l k
  unfold neonwrightlaw05_lists.f
  repeat' first
      | (with_reducible exact ih0 _ _ _)
      | (with_reducible exact neonwrightlaw05_same.mono _ _ _)
      | (with_reducible exact LeO.refl _)
      | (with_reducible exact LeO.none _)
      | (with_reducible refine LeO.ite ?_ ?_)
      | (with_reducible refine LeO.bind ?_ (fun _ => ?_))
      | exact ih0 _ _ _
      | exact neonwrightlaw05_same.mono _ _ _
      | exact LeO.none _
      | refine LeO.ite ?_ ?_
      | refine LeO.bind ?_ (fun _ => ?_)
set_option maxHeartbeats 8000000 in
set_option maxRecDepth 100000 in
theorem neonwrightlaw05_lists.calls (k : Nat) (A0 : Option Addr) (c0 : Nat) (l0 : List (List Int)) (A1 : Option Addr) (c1 : Nat) (l1 : List (List Int)) (r : Bool) (w : World) (hr0 : Kd.C (Kd.slice 3 (Kd.int .i64)) w A0 l0.length l0) (hc0 : l0.length ≤ c0) (hr1 : Kd.C (Kd.slice 3 (Kd.int .i64)) w A1 l1.length l1) (hc1 : l1.length ≤ c1) (h : neonwrightlaw05_lists.f k l0 l1 = some r) :
    Calls Tryd.prog 28 #[.slice A0 l0.length c0, .slice A1 l1.length c1] w fun e w' => e = .returned (.bool r) ∧ Drawn0 w w' := by
  have HR0 := Aside0.mk hr0
  have HC0 := Aside0.mk hc0
  clear hr0 hc0
  have HR1 := Aside0.mk hr1
  have HC1 := Aside0.mk hc1
  clear hr1 hc1
  have H : (if (l0.length : Int) = (l1.length : Int) then (neonwrightlaw05_lists.l0 k l0 l1 0) else (some false)) = some r := h
  clear h
  by_cases c3 : (l0.length : Int) = (l1.length : Int)
  · rw [if_pos c3] at H
    have c3b0 : ((l0.length : Int) == (l1.length : Int)) = true := beq_iff_eq.mpr c3
    have c3b1 : ((l0.length : Int) != (l1.length : Int)) = false := bne_eq_false_iff_eq.mpr c3
    have c3b2 : (l0.length == l1.length) = true := by first | simpa using c3 | (simp at c3 ⊢; omega)
    clear c3
    have H' := Aside0.mk H
    clear H
    go_enter Tryd.func28, Tryd.ntmps28
    go_wp2
    repeat (go_quiet (fail); try go_wp2)
    go_loopg [5] k (fun kq v5 w' => ∃ (x5_1 : Int), v5 = .int .i64 x5_1 ∧ Aside0 (neonwrightlaw05_lists.l0 kq l0 l1 x5_1 = some r) ∧ Aside0 (kq ≤ k) ∧ Drawn0 w w')
    case atStart => exact ⟨(0), (by first | rfl | (simp; done) | (simp [*]; done)), H', ⟨Nat.le_refl _⟩, by repeat (first | exact Drawn0.refl _ | apply Drawn0.step)⟩
    case round =>
      clear H'
      try clear c1
      try clear c2
      try clear p2
      try clear c3
      try clear c3b0
      try clear c3b1
      try clear c3b2
      obtain ⟨x5_1, rfl, HA, HK1, ⟨m1, rfl⟩⟩ := hrel
      cases gk with
      | zero => exact absurd HA.out (by simp [neonwrightlaw05_lists.l0])
      | succ k1 =>
        have H := HA.out
        clear HA
        simp only [neonwrightlaw05_lists.l0] at H
        by_cases c4 : x5_1 < (l0.length : Int)
        · rw [if_pos c4] at H
          have c4b0 : decide (x5_1 < (l0.length : Int)) = true := decide_eq_true c4
          clear c4
          by_cases c5 : 0 ≤ x5_1
          · rw [if_pos c5] at H
            have c5b0 : decide (0 ≤ x5_1) = true := decide_eq_true c5
            clear c5
            by_cases c6 : x5_1 < (l1.length : Int)
            · rw [if_pos c6] at H
              have c6b0 : decide (x5_1 < (l1.length : Int)) = true := decide_eq_true c6
              clear c6
              replace H := Option.bind_eq_some_iff.mp H
              obtain ⟨t255, A70, H⟩ := H
              replace H : (if t255 = true then (neonwrightlaw05_lists.l0 k1 l0 l1 (wrap64 (x5_1 + 1))) else (some false)) = some r := H
              have A7 := Aside0.mk A70
              clear A70
              by_cases c8 : t255 = true
              · subst c8
                have H1 : (neonwrightlaw05_lists.l0 k1 l0 l1 (wrap64 (x5_1 + 1))) = some r := by rw [if_pos rfl] at H; exact H
                clear H
                have H := H1
                clear H1
                have H' := Aside0.mk H
                clear H
                have p253 : 0 ≤ (x5_1 : Int) := of_decide_eq_true (by first | (with_reducible assumption) | assumption)
                have q253 : x5_1 < (l0.length : Int) := of_decide_eq_true (by first | (with_reducible assumption) | assumption)
                obtain ⟨ad253, A253_0, c253_0, e253, hx253_0, hl253_0, hi253_0⟩ := at_L1 HR0.out x5_1 p253 q253
                cases e253
                have HR253_0 := Aside0.mk hi253_0
                have HC253_0 := Aside0.mk hl253_0
                clear hi253_0 hl253_0
                replace p253 := eq_true p253
                replace q253 := eq_true q253
                have p254 : 0 ≤ (x5_1 : Int) := of_decide_eq_true (by first | (with_reducible assumption) | assumption)
                have q254 : x5_1 < (l1.length : Int) := of_decide_eq_true (by first | (with_reducible assumption) | assumption)
                obtain ⟨ad254, A254_0, c254_0, e254, hx254_0, hl254_0, hi254_0⟩ := at_L1 HR1.out x5_1 p254 q254
                cases e254
                have HR254_0 := Aside0.mk hi254_0
                have HC254_0 := Aside0.mk hl254_0
                clear hi254_0 hl254_0
                replace p254 := eq_true p254
                replace q254 := eq_true q254
                go_wp2_with (first | (go_at_call 20; (with_reducible refine (neonwrightlaw05_same.calls k1 _ _ (rd_L1 l0 x5_1) _ _ (rd_L1 l1 x5_1) true _ ?side1 ?side2 ?side3 ?side4 A7.out).mono ?_); (case side1 => repeat (first | exact HR253_0.out | (with_reducible refine Kd.C_alloc ?_ _) | (with_reducible refine Kd.C_drewN ?_ _) | (with_reducible refine Kd.C_drew ?_))); (case side2 => exact HC253_0.out); (case side3 => repeat (first | exact HR254_0.out | (with_reducible refine Kd.C_alloc ?_ _) | (with_reducible refine Kd.C_drewN ?_ _) | (with_reducible refine Kd.C_drew ?_))); (case side4 => exact HC254_0.out); rintro e w' ⟨rfl, ⟨nd, rfl⟩⟩; (try first | exact ⟨rfl, _, World.drewN_drewN _ _ _⟩ | exact ⟨rfl, _, Eq.trans (World.drewN_drewN _ _ _) (congrArg (World.drewN _) (Nat.add_assoc _ _ _))⟩)))
                repeat (go_quiet (first | (go_at_call 20; (with_reducible refine (neonwrightlaw05_same.calls k1 _ _ (rd_L1 l0 x5_1) _ _ (rd_L1 l1 x5_1) true _ ?side1 ?side2 ?side3 ?side4 A7.out).mono ?_); (case side1 => repeat (first | exact HR253_0.out | (with_reducible refine Kd.C_alloc ?_ _) | (with_reducible refine Kd.C_drewN ?_ _) | (with_reducible refine Kd.C_drew ?_))); (case side2 => exact HC253_0.out); (case side3 => repeat (first | exact HR254_0.out | (with_reducible refine Kd.C_alloc ?_ _) | (with_reducible refine Kd.C_drewN ?_ _) | (with_reducible refine Kd.C_drew ?_))); (case side4 => exact HC254_0.out); rintro e w' ⟨rfl, ⟨nd, rfl⟩⟩; (try first | exact ⟨rfl, _, World.drewN_drewN _ _ _⟩ | exact ⟨rfl, _, Eq.trans (World.drewN_drewN _ _ _) (congrArg (World.drewN _) (Nat.add_assoc _ _ _))⟩))); try go_wp2_with (first | (go_at_call 20; (with_reducible refine (neonwrightlaw05_same.calls k1 _ _ (rd_L1 l0 x5_1) _ _ (rd_L1 l1 x5_1) true _ ?side1 ?side2 ?side3 ?side4 A7.out).mono ?_); (case side1 => repeat (first | exact HR253_0.out | (with_reducible refine Kd.C_alloc ?_ _) | (with_reducible refine Kd.C_drewN ?_ _) | (with_reducible refine Kd.C_drew ?_))); (case side2 => exact HC253_0.out); (case side3 => repeat (first | exact HR254_0.out | (with_reducible refine Kd.C_alloc ?_ _) | (with_reducible refine Kd.C_drewN ?_ _) | (with_reducible refine Kd.C_drew ?_))); (case side4 => exact HC254_0.out); rintro e w' ⟨rfl, ⟨nd, rfl⟩⟩; (try first | exact ⟨rfl, _, World.drewN_drewN _ _ _⟩ | exact ⟨rfl, _, Eq.trans (World.drewN_drewN _ _ _) (congrArg (World.drewN _) (Nat.add_assoc _ _ _))⟩))))
                go_roundg k1
                case measure => have := HK1.out; omega
                case rel => exact ⟨(wrap64 (x5_1 + 1)), (by first | rfl | (simp; done) | (simp [*]; done)), H', ⟨by have := HK1.out; omega⟩, by repeat (first | exact Drawn0.refl _ | apply Drawn0.step)⟩
              · replace c8 := Bool.eq_false_iff.mpr c8
                subst c8
                have H1 : (some false) = some r := by rw [if_neg (show ¬ (false = true) by decide)] at H; exact H
                clear H
                have H := H1
                clear H1
                obtain rfl := Option.some.inj H
                have p253 : 0 ≤ (x5_1 : Int) := of_decide_eq_true (by first | (with_reducible assumption) | assumption)
                have q253 : x5_1 < (l0.length : Int) := of_decide_eq_true (by first | (with_reducible assumption) | assumption)
                obtain ⟨ad253, A253_0, c253_0, e253, hx253_0, hl253_0, hi253_0⟩ := at_L1 HR0.out x5_1 p253 q253
                cases e253
                have HR253_0 := Aside0.mk hi253_0
                have HC253_0 := Aside0.mk hl253_0
                clear hi253_0 hl253_0
                replace p253 := eq_true p253
                replace q253 := eq_true q253
                have p254 : 0 ≤ (x5_1 : Int) := of_decide_eq_true (by first | (with_reducible assumption) | assumption)
                have q254 : x5_1 < (l1.length : Int) := of_decide_eq_true (by first | (with_reducible assumption) | assumption)
                obtain ⟨ad254, A254_0, c254_0, e254, hx254_0, hl254_0, hi254_0⟩ := at_L1 HR1.out x5_1 p254 q254
                cases e254
                have HR254_0 := Aside0.mk hi254_0
                have HC254_0 := Aside0.mk hl254_0
                clear hi254_0 hl254_0
                replace p254 := eq_true p254
                replace q254 := eq_true q254
                go_wp2_with (first | (go_at_call 20; (with_reducible refine (neonwrightlaw05_same.calls k1 _ _ (rd_L1 l0 x5_1) _ _ (rd_L1 l1 x5_1) false _ ?side1 ?side2 ?side3 ?side4 A7.out).mono ?_); (case side1 => repeat (first | exact HR253_0.out | (with_reducible refine Kd.C_alloc ?_ _) | (with_reducible refine Kd.C_drewN ?_ _) | (with_reducible refine Kd.C_drew ?_))); (case side2 => exact HC253_0.out); (case side3 => repeat (first | exact HR254_0.out | (with_reducible refine Kd.C_alloc ?_ _) | (with_reducible refine Kd.C_drewN ?_ _) | (with_reducible refine Kd.C_drew ?_))); (case side4 => exact HC254_0.out); rintro e w' ⟨rfl, ⟨nd, rfl⟩⟩; (try first | exact ⟨rfl, _, World.drewN_drewN _ _ _⟩ | exact ⟨rfl, _, Eq.trans (World.drewN_drewN _ _ _) (congrArg (World.drewN _) (Nat.add_assoc _ _ _))⟩)))
                repeat (go_quiet (first | (go_at_call 20; (with_reducible refine (neonwrightlaw05_same.calls k1 _ _ (rd_L1 l0 x5_1) _ _ (rd_L1 l1 x5_1) false _ ?side1 ?side2 ?side3 ?side4 A7.out).mono ?_); (case side1 => repeat (first | exact HR253_0.out | (with_reducible refine Kd.C_alloc ?_ _) | (with_reducible refine Kd.C_drewN ?_ _) | (with_reducible refine Kd.C_drew ?_))); (case side2 => exact HC253_0.out); (case side3 => repeat (first | exact HR254_0.out | (with_reducible refine Kd.C_alloc ?_ _) | (with_reducible refine Kd.C_drewN ?_ _) | (with_reducible refine Kd.C_drew ?_))); (case side4 => exact HC254_0.out); rintro e w' ⟨rfl, ⟨nd, rfl⟩⟩; (try first | exact ⟨rfl, _, World.drewN_drewN _ _ _⟩ | exact ⟨rfl, _, Eq.trans (World.drewN_drewN _ _ _) (congrArg (World.drewN _) (Nat.add_assoc _ _ _))⟩))); try go_wp2_with (first | (go_at_call 20; (with_reducible refine (neonwrightlaw05_same.calls k1 _ _ (rd_L1 l0 x5_1) _ _ (rd_L1 l1 x5_1) false _ ?side1 ?side2 ?side3 ?side4 A7.out).mono ?_); (case side1 => repeat (first | exact HR253_0.out | (with_reducible refine Kd.C_alloc ?_ _) | (with_reducible refine Kd.C_drewN ?_ _) | (with_reducible refine Kd.C_drew ?_))); (case side2 => exact HC253_0.out); (case side3 => repeat (first | exact HR254_0.out | (with_reducible refine Kd.C_alloc ?_ _) | (with_reducible refine Kd.C_drewN ?_ _) | (with_reducible refine Kd.C_drew ?_))); (case side4 => exact HC254_0.out); rintro e w' ⟨rfl, ⟨nd, rfl⟩⟩; (try first | exact ⟨rfl, _, World.drewN_drewN _ _ _⟩ | exact ⟨rfl, _, Eq.trans (World.drewN_drewN _ _ _) (congrArg (World.drewN _) (Nat.add_assoc _ _ _))⟩))))
                go_ret
                exact ⟨by first | rfl | (simp; done) | (simp [*]; done), by repeat (first | exact Drawn0.refl _ | apply Drawn0.step)⟩
            · rw [if_neg c6] at H
              exact absurd H (by simp)
          · rw [if_neg c5] at H
            exact absurd H (by simp)
        · rw [if_neg c4] at H
          have c4b0 : decide (x5_1 < (l0.length : Int)) = false := decide_eq_false c4
          clear c4
          obtain rfl := Option.some.inj H
          go_wp2
          repeat (go_quiet (fail); try go_wp2)
          go_ret
          exact ⟨by first | rfl | (simp; done) | (simp [*]; done), by repeat (first | exact Drawn0.refl _ | apply Drawn0.step)⟩
  · rw [if_neg c3] at H
    have c3b0 : ((l0.length : Int) == (l1.length : Int)) = false := beq_eq_false_iff_ne.mpr c3
    have c3b1 : ((l0.length : Int) != (l1.length : Int)) = true := bne_iff_ne.mpr c3
    have c3b2 : (l0.length == l1.length) = false := by first | simpa using c3 | (simp at c3 ⊢; omega)
    obtain rfl := Option.some.inj H
    go_enter Tryd.func28, Tryd.ntmps28
    go_wp2
    repeat (go_quiet (fail); try go_wp2)
    go_ret
    exact ⟨by first | rfl | (simp; done) | (simp [*]; done), by repeat (first | exact Drawn0.refl _ | apply Drawn0.step)⟩

end Go.Proofs.YtglajokjiphafaaDoor.P

set_option linter.unusedSimpArgs false
set_option linter.unusedVariables false
namespace Go.Proofs.YtglajokjiphafaaDoor.P
open Go.Lib Go.RowKit Go.Proofs.YtglajokjiphafaaDoorW.PrintWords Go.Proofs.YtglajokjiphafaaDoorW.PrintLast Go.Proofs.YtglajokjiphafaaDoorW.PrintMore Go.Proofs.YtglajokjiphafaaDoor.Kit

theorem listsK_l0 (d : List (List Int)) (hl : d.length ≤ 4611686018427387904) (hr : ∀ r ∈ d, r.length ≤ 4611686018427387904) : ∀ m i, d.length - i = m → i ≤ d.length → Ev (fun k => neonwrightlaw05_lists.l0 k d d (i : Int)) true := by
  intro m
  induction m with
  | zero =>
    intro i hm hi
    refine Ev.step (fun k => ?_) (Ev.now true)
    simp only [neonwrightlaw05_lists.l0]
    rw [if_neg (by omega)]
  | succ m ih =>
    intro i hm hi
    have hlt : i < d.length := by omega
    refine Ev.step (f := fun k => (neonwrightlaw05_same.f k d[i] d[i]).bind fun t => if t = true then neonwrightlaw05_lists.l0 k d d ((i + 1 : Nat) : Int) else some false) (fun k => ?_) (Ev.bnd (same_refl _ (hr _ (List.getElem_mem hlt))) (Ev.pos rfl (ih (i + 1) (by omega) (by omega))))
    simp only [neonwrightlaw05_lists.l0]
    rw [if_pos (by omega), if_pos (by omega), if_pos (by omega), rdL_get d i hlt, wrap1 (by omega)]
theorem listsK (d : List (List Int)) (hl : d.length ≤ 4611686018427387904) (hr : ∀ r ∈ d, r.length ≤ 4611686018427387904) : ∃ k, neonwrightlaw05_lists.f k d d = some true := by
  refine Ev.rounds ?_
  refine Ev.congr (f := fun k => neonwrightlaw05_lists.l0 k d d ((0 : Nat) : Int)) (fun k => ?_) (listsK_l0 d hl hr d.length 0 (by omega) (by omega))
  unfold neonwrightlaw05_lists.f
  rw [if_pos rfl]
  rfl
end Go.Proofs.YtglajokjiphafaaDoor.P

set_option linter.unusedSimpArgs false
set_option linter.unusedVariables false
namespace Go.Proofs.YtglajokjiphafaaDoor.Kit

def ins (x : Int) : List Int → List Int
  | [] => [x]
  | y :: ys => if x ≤ y then x :: y :: ys else y :: ins x ys
def isort : List Int → List Int
  | [] => []
  | x :: xs => ins x (isort xs)
theorem ins_perm (x : Int) (l : List Int) : (ins x l).Perm (x :: l) := by
  induction l with
  | nil => exact List.Perm.refl _
  | cons y ys ih =>
    unfold ins
    split
    · exact List.Perm.refl _
    · exact (List.Perm.cons y ih).trans (List.Perm.swap x y ys)
theorem isort_perm (l : List Int) : (isort l).Perm l := by
  induction l with
  | nil => exact List.Perm.refl _
  | cons x xs ih => exact (ins_perm x (isort xs)).trans (List.Perm.cons x ih)
theorem isort_length (l : List Int) : (isort l).length = l.length := (isort_perm l).length_eq
theorem mem_isort {x : Int} {l : List Int} : x ∈ isort l ↔ x ∈ l := (isort_perm l).mem_iff
theorem ins_sorted (x : Int) (l : List Int) (h : l.Pairwise (· ≤ ·)) : (ins x l).Pairwise (· ≤ ·) := by
  induction l with
  | nil => simp [ins]
  | cons y ys ih =>
    unfold ins
    rw [List.pairwise_cons] at h
    split
    · rename_i hxy
      refine List.pairwise_cons.2 ⟨fun z hz => ?_, List.pairwise_cons.2 h⟩
      rcases List.mem_cons.1 hz with rfl | hz
      · exact hxy
      · have := h.1 z hz
        omega
    · refine List.pairwise_cons.2 ⟨fun z hz => ?_, ih h.2⟩
      rcases List.mem_cons.1 ((ins_perm x ys).mem_iff.1 hz) with rfl | hz
      · omega
      · exact h.1 z hz
theorem isort_sorted (l : List Int) : (isort l).Pairwise (· ≤ ·) := by
  induction l with
  | nil => exact List.Pairwise.nil
  | cons x xs ih => exact ins_sorted x _ ih
/-- Two sorted lists of the same numbers are one. -/
theorem sorted_uniq : ∀ {a b : List Int}, a.Perm b → a.Pairwise (· ≤ ·) → b.Pairwise (· ≤ ·) → a = b := by
  intro a
  induction a with
  | nil => intro b h _ _; exact h.nil_eq
  | cons x xs ih =>
    intro b h ha hb
    cases b with
    | nil => exact absurd h.length_eq (by simp)
    | cons y ys =>
      rw [List.pairwise_cons] at ha hb
      have hxy : x = y := by
        have h1 : x ∈ y :: ys := h.mem_iff.1 List.mem_cons_self
        have h2 : y ∈ x :: xs := h.mem_iff.2 List.mem_cons_self
        rcases List.mem_cons.1 h1 with h1 | h1
        · exact h1
        · rcases List.mem_cons.1 h2 with h2 | h2
          · exact h2.symm
          · have := ha.1 y h2
            have := hb.1 x h1
            omega
      subst hxy
      rw [ih (List.Perm.cons_inv h) ha.2 hb.2]
theorem isort_of_sorted {l : List Int} (h : l.Pairwise (· ≤ ·)) : isort l = l := sorted_uniq (isort_perm l) (isort_sorted l) h
theorem mergeSort_isort (l : List Int) : (l.mergeSort fun x y => decide (x ≤ y)) = isort l := by
  refine sorted_uniq ((List.mergeSort_perm l _).trans (isort_perm l).symm) ?_ (isort_sorted l)
  have h := List.pairwise_mergeSort (le := fun x y : Int => decide (x ≤ y)) (fun a b c h1 h2 => by simp at *; omega) (fun a b => by simp; omega) l
  exact h.imp (fun h => by simpa using h)

end Go.Proofs.YtglajokjiphafaaDoor.Kit

namespace Go.Proofs.YtglajokjiphafaaDoor.P
open Go.RowKit Go.Proofs.YtglajokjiphafaaDoorW.PrintWords Go.Proofs.YtglajokjiphafaaDoorW.PrintLast Go.Proofs.YtglajokjiphafaaDoorW.PrintMore
open Go.Sort
set_option linter.unusedSimpArgs false

theorem reps_nums {k : IntKind} {xs : List Int} {cs : List Value} (h : Reps (fun (x : Int) cs => cs = [Value.int k x]) 1 xs cs) : cs = nums k xs := by
  obtain ⟨hl, he⟩ := h
  apply List.ext_getElem?
  intro j
  by_cases hj : j < xs.length
  · have h1 := he j xs[j] (List.getElem?_eq_getElem hj)
    rw [Nat.mul_one] at h1
    have h2 : cs[j]? = ((cs.drop j).take 1)[0]? := by simp
    rw [h2, h1]
    simp [nums, List.getElem?_eq_getElem hj]
  · rw [List.getElem?_eq_none (by omega), List.getElem?_eq_none (by rw [nums_length]; omega)]
theorem reps_of_nums (k : IntKind) (xs : List Int) : Reps (fun (x : Int) cs => cs = [Value.int k x]) 1 xs (nums k xs) := by
  refine ⟨by rw [nums_length, Nat.mul_one], fun j p hj => ?_⟩
  have hlt : j < xs.length := by
    rcases Nat.lt_or_ge j xs.length with h | h
    · exact h
    · rw [List.getElem?_eq_none h] at hj; cases hj
  rw [List.getElem?_eq_getElem hlt] at hj
  injection hj with hj
  rw [Nat.mul_one]
  apply List.ext_getElem?
  intro i
  cases i with
  | zero => simp [nums, List.getElem?_eq_getElem hlt, hj]
  | succ i =>
    simp
    omega
theorem R_int_own {k : IntKind} {e base : Nat} {ok : Nat → Prop} {w : World} {v : Value} {xs : List Int} (h : (Kd.int k).R e w base ok v xs) : (∀ j, v.ownBlock = some j → ok j) ∧ w.ownsRow base e 1 v xs.length (nums k xs) := by
  obtain ⟨h0, inner, ho, hr⟩ := h
  have : inner = nums k xs := reps_nums hr
  subst this
  exact ⟨h0, ho⟩
theorem R_int_mk {k : IntKind} {e base : Nat} {ok : Nat → Prop} {w : World} {v : Value} {xs : List Int} (h0 : ∀ j, v.ownBlock = some j → ok j) (ho : w.ownsRow base e 1 v xs.length (nums k xs)) : (Kd.int k).R e w base ok v xs :=
  ⟨h0, nums k xs, ho, reps_of_nums k xs⟩

/-- A row of the call's own, as the sort's contract sees it. -/
theorem holds_of_own {k : IntKind} {base g cap e : Nat} {w : World} {xs : List Int} (h : w.ownsRow base e 1 (.slice (some ⟨g, 0, none⟩) xs.length cap) xs.length (nums k xs)) :
    Holds (Value.int k) w g 0 xs.toArray ∧ g < w.heap.size := by
  obtain ⟨hl, h⟩ := h
  rcases h with ⟨h1, _⟩ | ⟨g', cap', cur, h1, hb, hh, hn, hc, hs, ht⟩
  · cases h1
  · injection h1 with h1 h2 h3
    injection h1 with h1
    injection h1 with h1
    subst h1
    refine ⟨fun j hj => ?_, (Array.getElem?_eq_some_iff.1 hh).1⟩
    simp only [List.size_toArray] at hj
    rw [Nat.mul_one] at ht
    constructor
    · have h4 : cur.toList[j]? = (nums k xs)[j]? := by
        rw [← ht, List.getElem?_take, if_pos hj]
      simp only [World.cell?, hh, Nat.zero_add]
      simp only [Option.isSome_none, Bool.false_eq_true, if_false]
      rw [← Array.getElem?_toList, h4]
      simp [nums, List.getElem?_eq_getElem hj, hj]
    · simp [World.frozen?, hh]

/-- What stands behind a row that was laid anew. -/
theorem own_put_row {k : IntKind} {base g cap e m : Nat} {os : Array Obj} {w : World} {xs ys : List Int} (hlen : ys.length = xs.length)
    (h : w.ownsRow base e 1 (.slice (some ⟨g, 0, none⟩) xs.length cap) xs.length (nums k xs)) :
    (grow (putRow (Value.int k) (Sort.ahead w m) g 0 ys.toArray) os).ownsRow base e 1 (.slice (some ⟨g, 0, none⟩) xs.length cap) ys.length (nums k ys) := by
  obtain ⟨hl, h⟩ := h
  rcases h with ⟨h1, _⟩ | ⟨g', cap', cur, h1, hb, hh, hn, hc, hs, ht⟩
  · cases h1
  · injection h1 with h1 h2 h3
    injection h1 with h1
    injection h1 with h1
    subst h1 h3
    have hg : g < w.heap.size := (Array.getElem?_eq_some_iff.1 hh).1
    refine ⟨by rw [nums_length, Nat.mul_one], .inr ⟨g, cap, putCells (Value.int k) 0 ys.toArray cur, by rw [hlen], hb, ?_, by omega, hc, by simp [putCells, hs], ?_⟩⟩
    · rw [heap_grow_old _ _ (by simpa using hg)]
      simp only [putRow, mapBlock, heap_ahead, Array.getElem?_modify, if_true, hh, Option.map_some, onCells]
    · rw [Nat.mul_one]
      apply List.ext_getElem?
      intro j
      rw [List.getElem?_take]
      by_cases hj : j < ys.length
      · have hjc : j < cur.size := by omega
        rw [if_pos hj]
        simp only [putCells, Array.getElem?_toList, Array.getElem?_mapIdx, Array.getElem?_eq_getElem hjc, Option.map_some, Nat.zero_le, true_and, Nat.zero_add, List.size_toArray, if_pos hj, Nat.sub_zero]
        simp [nums, List.getElem?_eq_getElem hj, hj]
      · rw [if_neg hj, List.getElem?_eq_none (by rw [nums_length]; omega)]

theorem below_put_row {k : IntKind} {B g m : Nat} {os : Array Obj} {w0 w : World} {d : Array Int} (hB : Below B w0 w) (hg : B ≤ g) (hlt : B ≤ w.heap.size) : Below B w0 (grow (putRow (Value.int k) (Sort.ahead w m) g 0 d) os) := by
  refine ⟨hB.os, hB.tape, hB.output, ?_, fun i hi => ?_⟩
  · have := hB.size
    simp [Sort.ahead]
    omega
  · rw [heap_grow_old _ _ (by simp; omega)]
    simp only [putRow, mapBlock, heap_ahead, Array.getElem?_modify]
    rw [if_neg (by omega)]
    exact hB.block i hi
theorem kept_put_row {k : IntKind} {g m : Nat} {os : Array Obj} {w : World} {d : Array Int} {S : Nat → Prop} (hS : S g) : Kept w (grow (putRow (Value.int k) (Sort.ahead w m) g 0 d) os) S := by
  refine ⟨by simp [Sort.ahead], fun i hi hn => ?_⟩
  rw [heap_grow_old _ _ (by simpa using hi)]
  simp only [putRow, mapBlock, heap_ahead, Array.getElem?_modify]
  rw [if_neg (fun e : g = i => hn (e ▸ hS))]

def slices_Sort_int_int.f (l0 : List Int) : Option (List Int) := if l0.length < 4611686018427387904 then some (Kit.isort l0) else none
theorem slices_Sort_int_int.calls (P0_ : Nat → Prop) (u9000_ : Value) (l0 : List Int) (r : List Int) (w0 w : World) (hB : Below w0.heap.size w0 w) (ho0 : Kd.R (Kd.int .i64) 3 w w0.heap.size P0_ u9000_ l0) (h : slices_Sort_int_int.f l0 = some r) :
    Calls Tryd.prog 71 #[u9000_] w fun e w' => e = .returned (.tuple #[]) ∧ Kd.R (Kd.int .i64) 3 w' w0.heap.size (fun k_ => (P0_ k_ ∨ w.heap.size ≤ k_)) u9000_ r ∧ Below w0.heap.size w0 w' ∧ Kept w w' (fun k_ => P0_ k_) := by
  unfold slices_Sort_int_int.f at h
  split at h
  case isFalse => cases h
  rename_i hsz
  injection h with h
  subst h
  obtain ⟨h0, ho⟩ := R_int_own ho0
  have ho' := ho
  rcases ho'.2 with ⟨rfl, hn⟩ | ⟨g, cap, cur, rfl, hb, hh, hn, hc, hs, ht⟩
  · have : l0 = [] := List.eq_nil_of_length_eq_zero hn
    subst this
    refine (Tryd.slices_Sort_int_none none 0 w).mono ?_
    rintro e w' ⟨rfl, rfl⟩
    exact ⟨rfl, Kd.R_nil _ _ _ _ _, hB, Kept.refl _ _⟩
  · obtain ⟨hH, hg⟩ := holds_of_own ho
    refine (Tryd.slices_Sort_int g 0 cap l0 w hH hg hsz).mono ?_
    rintro e w' ⟨rfl, m, os, rfl⟩
    rw [Kit.mergeSort_isort]
    refine ⟨rfl, R_int_mk (fun j hj => .inl (h0 j hj)) ?_, below_put_row hB hb hB.size, kept_put_row (h0 g rfl)⟩
    exact own_put_row (Kit.isort_length l0) ho

end Go.Proofs.YtglajokjiphafaaDoor.P

set_option linter.unusedSimpArgs false
set_option linter.unusedVariables false
namespace Go.Proofs.YtglajokjiphafaaDoor.P
open Go.Lib Go.RowKit Go.Proofs.YtglajokjiphafaaDoorW.PrintWords Go.Proofs.YtglajokjiphafaaDoorW.PrintLast Go.Proofs.YtglajokjiphafaaDoorW.PrintMore Go.Proofs.YtglajokjiphafaaDoor.Kit

/-- A list of rows of these lengths. -/
def Held (W : World) (B : Nat) (v : Value) (L : List Nat) : Prop := ∃ xs : List (List Int), xs.map List.length = L ∧ Kd.R (Kd.slice 3 (Kd.int .i64)) 25 W B (fun _ => True) v xs
theorem Held.below {W W' : World} {B : Nat} {v : Value} {L : List Nat} (h : Held W B v L) (hb : Below W.heap.size W W') : Held W' B v L := by
  obtain ⟨xs, h1, h2⟩ := h
  exact ⟨xs, h1, Kd.R_below h2 hb⟩
theorem Held.drewN {W : World} {B : Nat} {v : Value} {L : List Nat} (h : Held W B v L) (n : Nat) : Held (W.drewN n) B v L := h.below (pw_below_drewN (Below.refl _ _) n)
theorem Held.slice {W : World} {B : Nat} {v : Value} {L : List Nat} (h : Held W B v L) : ∃ A c, v = .slice A L.length c := by
  obtain ⟨xs, h1, h2⟩ := h
  obtain ⟨A, c, h3⟩ := Kd.R_slice h2
  rw [← h1, List.length_map]
  exact ⟨A, c, h3⟩
theorem row_poke {W : World} {B g0 k : Nat} {x : Int} {cur : Array Value} {ok : Nat → Prop} {u : Value} {row : List Int} (hg : W.heap[g0]? = some (.cells cur 3 (0, 0))) (h : (Kd.int .i64).R 3 W B ok u row) :
    ∃ row' : List Int, row'.length = row.length ∧ (Kd.int .i64).R 3 (W.setCell ⟨g0, k, none⟩ (.int .i64 x)) B ok u row' := by
  obtain ⟨h0, ho⟩ := R_int_own h
  by_cases hb : u.ownBlock = some g0
  · rcases ho.2 with ⟨rfl, _⟩ | ⟨g, cap, cur', rfl, hg', _⟩
    · simp [Value.ownBlock] at hb
    · have e : g = g0 := by simpa [Value.ownBlock] using hb
      subst e
      obtain ⟨h1, _⟩ := own_store ho (k : Int) x
      rw [Int.toNat_natCast] at h1
      refine ⟨row.set k x, List.length_set, R_int_mk h0 ?_⟩
      rw [List.length_set]
      exact h1
  · exact ⟨row, rfl, R_int_mk h0 (own_setCell ho (fun e => hb e.symm) _)⟩
theorem Held.poke {W : World} {B : Nat} {v : Value} {L : List Nat} (h : Held W B v L) (i : Nat) (hi : i < L.length) :
    ∃ ad cap A0 c0, v = .slice (some ad) L.length cap ∧ W.cell? (ad.add i) = some (.slice A0 L[i] c0) ∧ ∀ k, k < L[i] → ∃ ad0 y, A0 = some ad0 ∧ W.cell? (ad0.add k) = some (.int .i64 y) ∧ W.frozen? (ad0.add k) = false ∧
      ∀ x : Int, Held (W.setCell (ad0.add k) (.int .i64 x)) B v L ∧ ∀ w0, Below B w0 W → Below B w0 (W.setCell (ad0.add k) (.int .i64 x)) := by
  obtain ⟨xs, rfl, hR⟩ := h
  rw [List.length_map] at hi ⊢
  obtain ⟨g, cap, rfl, hb, hl, _⟩ := Kd.R_form hR (by omega)
  obtain ⟨c, hc1, hM, hcell, _⟩ := Kd.R_elem hR [] (i : Int) (by omega) (by omega)
  obtain ⟨u, rfl, hRu⟩ := hM
  obtain ⟨A0, c0, rfl⟩ := Kd.R_slice hRu
  rw [Int.toNat_natCast] at hcell hRu
  have hgd : xs.getD i [] = xs[i] := by simp [List.getD_eq_getElem?_getD, hi]
  rw [hgd] at hcell hRu
  have hadd : ∀ (b j : Nat), (⟨b, 0, none⟩ : Addr).add j = ⟨b, j, none⟩ := fun b j => by
    unfold Addr.add
    by_cases e : j = 0
    · rw [if_pos e, e]
    · rw [if_neg e]; simp
  refine ⟨⟨g, 0, none⟩, cap, A0, c0, rfl, ?_, fun k hk => ?_⟩
  · rw [hadd, List.getElem_map]
    have := hcell 0 _ rfl
    rw [show i * (Kd.slice 3 (Kd.int .i64)).sz + 0 = i from by show i * 1 + 0 = i; omega] at this
    exact this
  · rw [List.getElem_map] at hk
    obtain ⟨h0, ho⟩ := R_int_own hRu
    rcases ho.2 with ⟨_, e⟩ | ⟨g0, cap0, cur, e, hg0, hh, hrest⟩
    · omega
    · injection e with e1 e2 e3
      subst e1 e3
      have hat := own_at ho (k : Int) (by omega) (by omega)
      rw [Int.toNat_natCast] at hat
      refine ⟨⟨g0, 0, none⟩, _, rfl, by rw [hadd]; exact hat.1, by rw [hadd]; exact hat.2, fun x => ?_⟩
      rw [hadd]
      refine ⟨?_, fun w0 hw => hw.setCell hg0 _⟩
      obtain ⟨h0', inner, ho', hr'⟩ := hR
      have hil : inner.length = xs.length := by have h9 : inner.length = xs.length * 1 := hr'.1; omega
      obtain ⟨rs, r1, r2⟩ := choose_list (α := List Int) (fun m row' => row'.length = (xs.getD m []).length ∧ (Kd.slice 3 (Kd.int .i64)).M (W.setCell ⟨g0, k, none⟩ (.int .i64 x)) B (fun k => (fun _ => True) k ∧ some k ≠ (Value.slice (some ⟨g, 0, none⟩) xs.length cap).ownBlock) row' ((inner.drop (m * 1)).take 1)) xs.length (fun m hm => by
        have hx := hr'.2 m xs[m] (List.getElem?_eq_getElem hm)
        obtain ⟨u, e, hRm⟩ := hx
        obtain ⟨row', h1, h2⟩ := row_poke (k := k) (x := x) hh hRm
        exact ⟨row', by rw [h1]; simp [List.getD_eq_getElem?_getD, hm], u, e, h2⟩)
      refine ⟨rs, ?_, fun _ _ => trivial, inner, ?_, ?_⟩
      · refine List.ext_getElem (by rw [List.length_map, List.length_map, r1]) (fun m a b => ?_)
        rw [List.length_map] at a b
        have := (r2 m b).1
        rw [getElem!_pos rs m a] at this
        rw [List.getElem_map, List.getElem_map, this]
        simp [List.getD_eq_getElem?_getD, b]
      · have := own_setCell ho' (p := ⟨g0, k, none⟩) (own_ne ho' hh (by decide)) (.int .i64 x)
        rw [r1]
        exact this
      · refine ⟨by rw [r1]; exact hr'.1, fun m p hp => ?_⟩
        obtain ⟨hm, e⟩ := List.getElem?_eq_some_iff.1 hp
        have := (r2 m (by omega)).2
        rw [getElem!_pos rs m hm, e] at this
        exact this
end Go.Proofs.YtglajokjiphafaaDoor.P

set_option linter.unusedSimpArgs false
set_option linter.unusedVariables false
namespace Go.Proofs.YtglajokjiphafaaDoor.P
open Go.Lib Go.RowKit Go.Proofs.YtglajokjiphafaaDoorW.PrintWords Go.Proofs.YtglajokjiphafaaDoorW.PrintLast Go.Proofs.YtglajokjiphafaaDoorW.PrintMore Go.Proofs.YtglajokjiphafaaDoor.Kit
attribute [local go_sem] max2_int min2_int max_two min_two max_three min_three max_four min_four

def neonwrightlaw05_FindDesigns.f (k : Nat) (a0 a1 a2 a3 : Int) : Option Bool := some true
set_option maxHeartbeats 8000000
set_option maxRecDepth 100000
theorem designs_walk (a0 a1 a2 a3 : Int) (w : World) (hT : TabG w) :
    Calls Tryd.prog 10 #[.int .i64 a0, .int .i64 a1, .int .i64 a2, .int .i64 a3] w fun e w' => e = .returned (.bool true) ∧ Below w.heap.size w w' := by
  obtain ⟨l, e, ⟨n1, h1⟩, ⟨n2, h2⟩, hl, hx⟩ := kautz_val a0 a1 a2
  obtain ⟨l2, e2, ⟨n3, h3⟩, ⟨n4, h4⟩, hl2, hx2⟩ := halves_val a3
  obtain ⟨kl, hkl⟩ := listsK l (by omega) (fun r hr => by have := hx r hr; omega)
  obtain ⟨kl2, hkl2⟩ := listsK l2 (by omega) (fun r hr => by have := hx2 r hr; omega)
  obtain ⟨ka, hka⟩ := neonwrightlaw05_alive.tells
  have HT := Aside0.mk hT
  have H1 := Aside0.mk h1
  have H2 := Aside0.mk h2
  have H3 := Aside0.mk h3
  have H4 := Aside0.mk h4
  have HL := Aside0.mk hl
  have HX := Aside0.mk (show ∀ i (hi : i < (l.map List.length).length), 0 < (l.map List.length)[i] from fun i hi => by rw [List.getElem_map]; have := hx _ (List.getElem_mem (by simpa using hi)); omega)
  have HKL := Aside0.mk hkl
  have HKL2 := Aside0.mk hkl2
  have HKA := Aside0.mk hka
  have HLm := Aside0.mk (show (l.map List.length).length = l.length from List.length_map _)
  have ee1 : (e != e) = false := by simp
  have ee2 : (e2 == e2) = true := by simp
  clear h1 h2 h3 h4 hl hx hl2 hx2 hkl hkl2 hka hT
  have HB := Aside0.mk (Below.refl w.heap.size w)
  go_enter Tryd.func10, Tryd.ntmps10
  go_wp2_with (go_at_call 33; (refine (neonwrightref05_Kautz.calls n2 a0 a1 a2 l e _ H2.out).mono ?_); rintro _ w1 ⟨vb, rfl, hS, hb⟩; obtain ⟨Ab, cb, rfl⟩ := Kd.S_slice hS; have HCb := Aside0.mk (Kd.S_reads' hS); have HB1 := Aside0.mk hb; clear hS hb)
  have HLb := Aside0.mk HCb.out.2.1
  have HC0 := Aside0.mk HCb.out.2.2
  clear HCb HB
  go_loopw [11] (fun v11 w' => ∃ i : Nat, v11 = .int .i64 (i : Int) ∧ Aside0 (i ≤ 2) ∧ Aside0 (Kd.C (Kd.slice 3 (Kd.int .i64)) w' Ab l.length l) ∧ Aside0 (Below w.heap.size w w')) (fun v _ => 2 - (intOf v).toNat)
  case atStart => exact ⟨0, rfl, ⟨by decide⟩, HC0, HB1⟩
  case round =>
    clear HC0 HB1
    obtain ⟨i, rfl, Hi, HC, HB⟩ := hrel
    by_cases ci : (i : Int) < 2
    · have c1 : decide ((i : Int) < 2) = true := decide_eq_true ci
      have Hci := Aside0.mk (show i < 2 by omega)
      clear ci
      generalize wr = W0 at *
      go_wp2_with (first | (go_at_call 21; (refine (find_Kautz.calls n1 a0 a1 a2 l e _ H1.out).mono ?_); rintro _ w2 ⟨va, rfl, hS, hb⟩; obtain ⟨Aa, ca, rfl⟩ := Kd.S_slice hS; have HCa := Aside0.mk (Kd.S_reads' hS); have HHa := Aside0.mk (show Held w2 W0.heap.size (.slice Aa l.length ca) (l.map List.length) from ⟨l, rfl, Kd.S_R hS⟩); have HB2 := Aside0.mk hb; clear hS hb) | (go_at_call 28; (refine (neonwrightlaw05_lists.calls kl Aa ca l Ab cb l true _ (by repeat (first | exact HCa.out.2.2 | (with_reducible refine Kd.C_drewN ?_ _) | (with_reducible refine Kd.C_drew ?_))) HCa.out.2.1 (by repeat (first | exact (Kd.C_below HC.out HB2.out) | (with_reducible refine Kd.C_drewN ?_ _) | (with_reducible refine Kd.C_drew ?_))) HLb.out HKL.out).mono ?_); rintro _ w' ⟨rfl, ⟨nd, rfl⟩⟩))
      go_loopw [14] (fun v14 w' => ∃ j : Nat, v14 = .int .i64 (j : Int) ∧ Aside0 (j ≤ l.length) ∧ Aside0 (Held w' W0.heap.size (.slice Aa l.length ca) (l.map List.length)) ∧ Aside0 (Below W0.heap.size W0 w')) (fun v _ => l.length - (intOf v).toNat)
      case atStart => exact ⟨0, rfl, ⟨Nat.zero_le _⟩, ⟨by first | exact HHa.out | exact HHa.out.drewN _⟩, ⟨by repeat (first | exact HB2.out | apply pw_below_drewN | apply below_drew1)⟩⟩
      case round =>
        clear HCa HHa HB2
        obtain ⟨j, rfl, Hj, HH, HB2⟩ := hrel
        by_cases cj : (j : Int) < (l.length : Int)
        · have c2 : decide ((j : Int) < (l.length : Int)) = true := decide_eq_true cj
          have c2' : decide (j < l.length) = true := decide_eq_true (by omega)
          have Hcj := Aside0.mk (show j < l.length by omega)
          have q1 := eq_true cj
          have q2 := eq_true (show j < l.length by omega)
          have q3 := eq_true (show 0 ≤ (j : Int) by omega)
          obtain ⟨ad, cap, A0, c0, ev, hcell, hpk⟩ := HH.out.poke j (by rw [HLm.out]; omega)
          rw [HLm.out] at ev
          injection ev with ev1 ev2 ev3
          subst ev1 ev3
          have hpos := HX.out j (by rw [HLm.out]; omega)
          obtain ⟨ad0, y, rfl, hy, hfz, hset⟩ := hpk 0 hpos
          rw [show ad0.add 0 = ad0 by simp [Addr.add]] at hy hfz hset
          have q4 := eq_true hpos
          have q5 := eq_true (show (0 : Int) < (((l.map List.length)[j]'(by rw [HLm.out]; omega) : Nat) : Int) by omega)
          have HSet := Aside0.mk hset
          generalize hLj : (l.map List.length)[j]'(by rw [HLm.out]; have := Hcj.out; omega) = Lj at *
          clear hpk hset cj hpos hLj HH
          go_wp2
          go_roundw
          case rel => exact ⟨j + 1, by rw [wrap1 (by have := Hcj.out; have := HL.out; omega)], ⟨by have := Hcj.out; omega⟩, ⟨(HSet.out _).1⟩, ⟨(HSet.out _).2 _ HB2.out⟩⟩
          case measure => rw [wrap1 (by have := Hcj.out; have := HL.out; omega)]; have := Hcj.out; simp [intOf]; omega
        · have c2 : decide ((j : Int) < (l.length : Int)) = false := decide_eq_false cj
          have c2' : decide (j < l.length) = false := decide_eq_false (by omega)
          clear cj
          go_wp2
          go_roundw
          case rel => exact ⟨i + 1, by rw [wrap1 (by have := Hci.out; omega)], ⟨by have := Hci.out; omega⟩, ⟨Kd.C_below HC.out HB2.out⟩, ⟨below_step HB.out HB2.out⟩⟩
          case measure => rw [wrap1 (by have := Hci.out; omega)]; have := Hci.out; simp [intOf]; omega
    · have c1 : decide ((i : Int) < 2) = false := decide_eq_false ci
      clear ci
      go_wp2_with (first | (go_at_call 34; (refine (find_Halves.calls n3 a3 l2 e2 _ H3.out).mono ?_); rintro _ w2 ⟨va, rfl, hS, hb⟩; obtain ⟨Aa, ca, rfl⟩ := Kd.S_slice hS; have HCa := Aside0.mk (Kd.S_reads' hS); have HB2 := Aside0.mk (below_step HB.out hb); clear hS hb) | (go_at_call 35; (refine (neonwrightref05_Halves.calls n4 a3 l2 e2 _ H4.out).mono ?_); rintro _ w3 ⟨vc, rfl, hS, hb⟩; obtain ⟨Ac, cc, rfl⟩ := Kd.S_slice hS; have HCc := Aside0.mk (Kd.S_reads' hS); have HCa3 := Aside0.mk (Kd.C_below HCa.out.2.2 hb); have HB3 := Aside0.mk (below_step HB2.out hb); clear hS hb) | (go_at_call 28; (refine (neonwrightlaw05_lists.calls kl2 Aa ca l2 Ac cc l2 true _ (by repeat (first | exact HCa3.out | (with_reducible refine Kd.C_drewN ?_ _) | (with_reducible refine Kd.C_drew ?_))) HCa.out.2.1 (by repeat (first | exact HCc.out.2.2 | (with_reducible refine Kd.C_drewN ?_ _) | (with_reducible refine Kd.C_drew ?_))) HCc.out.2.1 HKL2.out).mono ?_); rintro _ w' ⟨rfl, ⟨nd, rfl⟩⟩) | (go_at_call 17; (refine (neonwrightlaw05_alive.calls ka true _ (HT.out.below (by repeat (first | exact HB3.out | apply pw_below_drewN | apply below_drew1))) HKA.out).mono ?_); rintro _ w4 ⟨rfl, hb⟩; have HB4 := Aside0.mk (below_step (by repeat (first | exact HB3.out | apply pw_below_drewN | apply below_drew1)) hb); clear hb))
      go_ret
      exact ⟨rfl, HB4.out⟩
theorem neonwrightlaw05_FindDesigns.calls (k : Nat) (a0 : Int) (a1 : Int) (a2 : Int) (a3 : Int) (r : Bool) (w : World) (hT : TabG w) (h : neonwrightlaw05_FindDesigns.f k a0 a1 a2 a3 = some r) :
    Calls Tryd.prog 10 #[.int .i64 a0, .int .i64 a1, .int .i64 a2, .int .i64 a3] w fun e w' => e = .returned (.bool r) ∧ Below w.heap.size w w' := by
  obtain rfl : true = r := Option.some.inj h
  exact designs_walk a0 a1 a2 a3 w hT
end Go.Proofs.YtglajokjiphafaaDoor.P
