/- Several texts of this session in one file, in build order: Pf16, DPure0. -/
import Derived.Test.YtglajokjiphafaaDoorJB1
import Derived.Test.YtglajokjiphafaaDoorJB2
namespace Go.Proofs.YtglajokjiphafaaDoor.P
open Go.RowKit Go.Proofs.YtglajokjiphafaaDoorW.PrintWords Go.Proofs.YtglajokjiphafaaDoorW.PrintLast Go.Proofs.YtglajokjiphafaaDoorW.PrintMore
attribute [local go_sem] max2_int min2_int max_two min_two max_three min_three max_four min_four   -- for this text's walks alone
set_option linter.unusedVariables false
set_option linter.unusedSimpArgs false

/-! ### neonwrightlaw05_few: function 16 -/
def neonwrightlaw05_few.l0 : Nat → List (List Int) → Int → Option (Bool)
  | 0, _, _ => none
  | k + 1, x0, x3 => if x3 < (x0.length : Int) then (if x3 ≥ 80 then (some false) else (if 0 ≤ x3 then (if ((rd_L1 x0 x3).length : Int) > 80 then (some false) else (neonwrightlaw05_few.l0 k x0 (wrap64 (x3 + 1)))) else (none))) else (some true)
def neonwrightlaw05_few.f (k : Nat) (l0 : List (List Int)) : Option (Bool) := neonwrightlaw05_few.l0 k l0 0
theorem neonwrightlaw05_few.mono_l : ∀ k, (∀ y0 y1, LeO (neonwrightlaw05_few.l0 k y0 y1) (neonwrightlaw05_few.l0 (k + 1) y0 y1))
  | 0 => fun _ _ r h => by simp [neonwrightlaw05_few.l0] at h
  | k + 1 => by
    have ih0 := neonwrightlaw05_few.mono_l k
    · intro y0 y1
      unfold neonwrightlaw05_few.l0
      repeat' first
      | (with_reducible exact ih0 _ _)
      | (with_reducible exact LeO.refl _)
      | (with_reducible exact LeO.none _)
      | (with_reducible refine LeO.ite ?_ ?_)
      | (with_reducible refine LeO.bind ?_ (fun _ => ?_))
      | exact ih0 _ _
      | exact LeO.none _
      | refine LeO.ite ?_ ?_
      | refine LeO.bind ?_ (fun _ => ?_)
theorem neonwrightlaw05_few.mono : ∀ a0 k, LeO (neonwrightlaw05_few.f k a0) (neonwrightlaw05_few.f (k + 1) a0) := by
  intro a0 k
  have ih0 := neonwrightlaw05_few.mono_l k
  unfold neonwrightlaw05_few.f
  repeat' first
      | (with_reducible exact ih0 _ _)
      | (with_reducible exact LeO.refl _)
      | (with_reducible exact LeO.none _)
      | (with_reducible refine LeO.ite ?_ ?_)
      | (with_reducible refine LeO.bind ?_ (fun _ => ?_))
      | exact ih0 _ _
      | exact LeO.none _
      | refine LeO.ite ?_ ?_
      | refine LeO.bind ?_ (fun _ => ?_)
set_option maxHeartbeats 8000000 in
set_option maxRecDepth 100000 in
theorem neonwrightlaw05_few.calls (k : Nat) (A0 : Option Addr) (c0 : Nat) (l0 : List (List Int)) (r : Bool) (w : World) (hr0 : Kd.C (Kd.slice 3 (Kd.int .i64)) w A0 l0.length l0) (hc0 : l0.length ≤ c0) (h : neonwrightlaw05_few.f k l0 = some r) :
    Calls Tryd.prog 16 #[.slice A0 l0.length c0] w fun e w' => e = .returned (.bool r) ∧ Drawn0 w w' := by
  have HR0 := Aside0.mk hr0
  have HC0 := Aside0.mk hc0
  clear hr0 hc0
  have H : (neonwrightlaw05_few.l0 k l0 0) = some r := h
  clear h
  have H' := Aside0.mk H
  clear H
  go_enter Tryd.func16, Tryd.ntmps16
  go_wp2
  go_loopg [3] k (fun kq v3 w' => ∃ (x3_1 : Int), v3 = .int .i64 x3_1 ∧ Aside0 (neonwrightlaw05_few.l0 kq l0 x3_1 = some r) ∧ Aside0 (kq ≤ k) ∧ Drawn0 w w')
  case atStart => exact ⟨(0), (by first | rfl | (simp; done) | (simp [*]; done)), H', ⟨Nat.le_refl _⟩, by repeat (first | exact Drawn0.refl _ | apply Drawn0.step)⟩
  case round =>
    clear H'
    try clear c1
    obtain ⟨x3_1, rfl, HA, HK1, ⟨m1, rfl⟩⟩ := hrel
    cases gk with
    | zero => exact absurd HA.out (by simp [neonwrightlaw05_few.l0])
    | succ k1 =>
      have H := HA.out
      clear HA
      simp only [neonwrightlaw05_few.l0] at H
      by_cases c2 : x3_1 < (l0.length : Int)
      · rw [if_pos c2] at H
        have c2b0 : decide (x3_1 < (l0.length : Int)) = true := decide_eq_true c2
        clear c2
        by_cases c3 : x3_1 ≥ 80
        · rw [if_pos c3] at H
          have c3b0 : decide (80 ≤ x3_1) = true := decide_eq_true c3
          clear c3
          obtain rfl := Option.some.inj H
          go_wp2
          go_ret
          exact ⟨by first | rfl | (simp; done) | (simp [*]; done), by repeat (first | exact Drawn0.refl _ | apply Drawn0.step)⟩
        · rw [if_neg c3] at H
          have c3b0 : decide (80 ≤ x3_1) = false := decide_eq_false c3
          clear c3
          by_cases c4 : 0 ≤ x3_1
          · rw [if_pos c4] at H
            have c4b0 : decide (0 ≤ x3_1) = true := decide_eq_true c4
            clear c4
            by_cases c5 : ((rd_L1 l0 x3_1).length : Int) > 80
            · rw [if_pos c5] at H
              have c5b0 : decide (80 < ((rd_L1 l0 x3_1).length : Int)) = true := decide_eq_true c5
              have c5b1 : decide (80 < (rd_L1 l0 x3_1).length) = true := decide_eq_true (by omega)
              clear c5
              obtain rfl := Option.some.inj H
              have p116 : 0 ≤ (x3_1 : Int) := of_decide_eq_true (by first | (with_reducible assumption) | assumption)
              have q116 : x3_1 < (l0.length : Int) := of_decide_eq_true (by first | (with_reducible assumption) | assumption)
              obtain ⟨ad116, A116_0, c116_0, e116, hx116_0, hl116_0, hi116_0⟩ := at_L1 HR0.out x3_1 p116 q116
              cases e116
              have HR116_0 := Aside0.mk hi116_0
              have HC116_0 := Aside0.mk hl116_0
              clear hi116_0 hl116_0
              replace p116 := eq_true p116
              replace q116 := eq_true q116
              go_wp2
              go_ret
              exact ⟨by first | rfl | (simp; done) | (simp [*]; done), by repeat (first | exact Drawn0.refl _ | apply Drawn0.step)⟩
            · rw [if_neg c5] at H
              have c5b0 : decide (80 < ((rd_L1 l0 x3_1).length : Int)) = false := decide_eq_false c5
              have c5b1 : decide (80 < (rd_L1 l0 x3_1).length) = false := decide_eq_false (by omega)
              clear c5
              have H' := Aside0.mk H
              clear H
              have p116 : 0 ≤ (x3_1 : Int) := of_decide_eq_true (by first | (with_reducible assumption) | assumption)
              have q116 : x3_1 < (l0.length : Int) := of_decide_eq_true (by first | (with_reducible assumption) | assumption)
              obtain ⟨ad116, A116_0, c116_0, e116, hx116_0, hl116_0, hi116_0⟩ := at_L1 HR0.out x3_1 p116 q116
              cases e116
              have HR116_0 := Aside0.mk hi116_0
              have HC116_0 := Aside0.mk hl116_0
              clear hi116_0 hl116_0
              replace p116 := eq_true p116
              replace q116 := eq_true q116
              go_wp2
              go_roundg k1
              case measure => have := HK1.out; omega
              case rel => exact ⟨(wrap64 (x3_1 + 1)), (by first | rfl | (simp; done) | (simp [*]; done)), H', ⟨by have := HK1.out; omega⟩, by repeat (first | exact Drawn0.refl _ | apply Drawn0.step)⟩
          · rw [if_neg c4] at H
            exact absurd H (by simp)
      · rw [if_neg c2] at H
        have c2b0 : decide (x3_1 < (l0.length : Int)) = false := decide_eq_false c2
        clear c2
        obtain rfl := Option.some.inj H
        go_wp2
        go_ret
        exact ⟨by first | rfl | (simp; done) | (simp [*]; done), by repeat (first | exact Drawn0.refl _ | apply Drawn0.step)⟩

end Go.Proofs.YtglajokjiphafaaDoor.P

set_option linter.unusedSimpArgs false
set_option linter.unusedVariables false
namespace Go.Proofs.YtglajokjiphafaaDoor.P
open Go.Lib Go.RowKit Go.Proofs.YtglajokjiphafaaDoorW.PrintWords Go.Proofs.YtglajokjiphafaaDoorW.PrintLast Go.Proofs.YtglajokjiphafaaDoorW.PrintMore Go.Proofs.YtglajokjiphafaaDoor.Kit

theorem alive_ev : Ev (fun k => neonwrightlaw05_alive.f k) true := by
  obtain ⟨k, hk⟩ := neonwrightlaw05_alive.tells
  exact Ev.of neonwrightlaw05_alive.mono hk
theorem same_l0 (l : List Int) (hl : l.length ≤ 4611686018427387904) : ∀ m i, l.length - i = m → i ≤ l.length → Ev (fun k => neonwrightlaw05_same.l0 k l l (i : Int)) true := by
  intro m
  induction m with
  | zero =>
    intro i hm hi
    refine Ev.step (fun k => ?_) (Ev.now true)
    simp only [neonwrightlaw05_same.l0]
    rw [if_neg (by omega)]
  | succ m ih =>
    intro i hm hi
    refine Ev.step (fun k => ?_) (ih (i + 1) (by omega) (by omega))
    simp only [neonwrightlaw05_same.l0]
    rw [if_pos (by omega), if_pos (by omega), if_pos (by omega), if_pos trivial, wrap1 (by omega)]
theorem same_refl (l : List Int) (hl : l.length ≤ 4611686018427387904) : Ev (fun k => neonwrightlaw05_same.f k l l) true := by
  refine Ev.congr (f := fun k => neonwrightlaw05_same.l0 k l l ((0 : Nat) : Int)) (fun k => ?_) (same_l0 l hl l.length 0 (by omega) (by omega))
  unfold neonwrightlaw05_same.f
  rw [if_pos rfl]
  rfl
theorem few_l0 (d : List (List Int)) : ∀ m i, 81 - i = m → i ≤ 80 → i ≤ d.length → (∀ j (hj : j < d.length), j < i → (d[j]).length ≤ 80) → ∃ b, Ev (fun k => neonwrightlaw05_few.l0 k d (i : Int)) b ∧ (b = true → d.length ≤ 80 ∧ ∀ r ∈ d, r.length ≤ 80) := by
  intro m
  induction m with
  | zero => intro i hm hi; omega
  | succ m ih =>
    intro i hm hi hid hp
    by_cases h1 : i < d.length
    · by_cases h2 : i = 80
      · refine ⟨false, Ev.step (fun k => ?_) (Ev.now false), fun h => by cases h⟩
        simp only [neonwrightlaw05_few.l0]
        rw [if_pos (by omega), if_pos (by omega)]
      · by_cases h3 : (d[i]).length ≤ 80
        · obtain ⟨b, hb, hs⟩ := ih (i + 1) (by omega) (by omega) (by omega) (fun j hj hji => by
            by_cases e : j = i
            · subst e; exact h3
            · exact hp j hj (by omega))
          refine ⟨b, Ev.step (fun k => ?_) hb, hs⟩
          simp only [neonwrightlaw05_few.l0]
          rw [if_pos (by omega), if_neg (by omega), if_pos (by omega), rdL_get d i h1, if_neg (by omega), wrap1 (by omega)]
        · refine ⟨false, Ev.step (fun k => ?_) (Ev.now false), fun h => by cases h⟩
          simp only [neonwrightlaw05_few.l0]
          rw [if_pos (by omega), if_neg (by omega), if_pos (by omega), rdL_get d i h1, if_pos (by omega)]
    · refine ⟨true, Ev.step (fun k => ?_) (Ev.now true), fun _ => ⟨by omega, fun r hr => ?_⟩⟩
      · simp only [neonwrightlaw05_few.l0]
        rw [if_neg (by omega)]
      · obtain ⟨j, hj, rfl⟩ := List.mem_iff_getElem.1 hr
        exact hp j hj (by omega)
theorem few_ev (d : List (List Int)) : ∃ b, Ev (fun k => neonwrightlaw05_few.f k d) b ∧ (b = true → d.length ≤ 80 ∧ ∀ r ∈ d, r.length ≤ 80) :=
  few_l0 d 81 0 (by omega) (by omega) (by omega) (fun j hj h => by omega)
theorem cmb_row (n : Nat) : ∀ m i, ∀ l ∈ cmb n m i, l.length = m := by
  intro m
  induction m with
  | zero => intro i l hl; simp [cmb] at hl; rw [hl]; rfl
  | succ m ih =>
    intro i l hl
    unfold cmb at hl
    obtain ⟨t, _, h2⟩ := List.mem_flatMap.1 hl
    obtain ⟨y, hy, rfl⟩ := List.mem_map.1 h2
    rw [List.length_cons, ih _ y hy]
theorem hidL_length (n : Nat) (d : List (List Int)) (D : Nat) : (hidL n d D).length ≤ D + 1 := by
  unfold hidL
  cases h : (List.range' 0 n).findSome? (hidT n d D) with
  | none => simp
  | some l =>
    obtain ⟨t, _, h1⟩ := List.exists_of_findSome?_eq_some h
    obtain ⟨m, hm, h2⟩ := List.exists_of_findSome?_eq_some h1
    unfold hidM at h2
    obtain ⟨y, hy, rfl⟩ := Option.map_eq_some_iff.1 h2
    have h3 := cmb_row n m 0 y (List.mem_of_find?_eq_some hy)
    have h4 := (List.mem_range'_1.1 hm).2
    show ((t : Int) :: y).length ≤ D + 1
    rw [List.length_cons]
    omega
theorem hidP_length (n : Int) (d : List (List Int)) (D : Int) : (hidP n d D).1.length ≤ 4611686018427387904 := by
  unfold hidP
  split
  · split
    · rename_i h
      have h1 := hidL_length n.toNat d D.toNat
      show (hidL n.toNat d D.toNat).length ≤ _
      omega
    · simp
  · simp
end Go.Proofs.YtglajokjiphafaaDoor.P
