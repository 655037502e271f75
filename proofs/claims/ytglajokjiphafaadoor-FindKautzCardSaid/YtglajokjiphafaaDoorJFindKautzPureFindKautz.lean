/- The law of the designs of Kautz. -/
import Derived.Test.YtglajokjiphafaaDoorJFindKautz2
import Derived.Test.YtglajokjiphafaaDoorJFindKautz1
set_option linter.unusedSimpArgs false
set_option linter.unusedVariables false
namespace Go.Proofs.YtglajokjiphafaaDoor.Pure
open Go.RowKit Go.Proofs.YtglajokjiphafaaDoor.P Go.Proofs.YtglajokjiphafaaDoorW.PrintWords Go.Proofs.YtglajokjiphafaaDoorW.PrintLast Go.Proofs.YtglajokjiphafaaDoorW.PrintMore Go.Proofs.YtglajokjiphafaaDoor.Kit

mutual
def kc0 : Nat → Int → Int → Int → Int → List (List Int) → Int → Int → Bool
  | 0, _, _, _, _, _, _, _ => false
  | k + 1, x9, x10, x11, x12, x13, x15, x16 => if x16 < x11 then (if 0 ≤ x15 then (if (x15 : Int).toNat ≤ 35184372088832 then (kc1 k x9 x10 x11 x12 x13 x15 x16 (List.replicate (x15 : Int).toNat 0) 0) else false) else false) else true
def kc1 : Nat → Int → Int → Int → Int → List (List Int) → Int → Int → List Int → Int → Bool
  | 0, _, _, _, _, _, _, _, _, _ => false
  | k + 1, x9, x10, x11, x12, x13, x15, x16, x17, x18 => if x18 < x9 then (kc2 k x9 x10 x11 x12 x13 x15 x16 x17 x18 0) else (kc3 k x9 x10 x11 x12 x13 x15 x16 x17 0)
def kc2 : Nat → Int → Int → Int → Int → List (List Int) → Int → Int → List Int → Int → Int → Bool
  | 0, _, _, _, _, _, _, _, _, _, _ => false
  | k + 1, x9, x10, x11, x12, x13, x15, x16, x17, x18, x19 => if 0 ≤ (wrap64 ((wrap64 (x16 * x9)) + x18)) then (if (wrap64 ((wrap64 (x16 * x9)) + x18)) < (x13.length : Int) then (if x19 < ((rd_L1 x13 (wrap64 ((wrap64 (x16 * x9)) + x18))).length : Int) then (if 0 ≤ x19 then (if (rd (rd_L1 x13 (wrap64 ((wrap64 (x16 * x9)) + x18))) x19) < 0 then false else (if (rd (rd_L1 x13 (wrap64 ((wrap64 (x16 * x9)) + x18))) x19) ≥ x15 then false else (if 0 ≤ (rd (rd_L1 x13 (wrap64 ((wrap64 (x16 * x9)) + x18))) x19) then (if (rd (rd_L1 x13 (wrap64 ((wrap64 (x16 * x9)) + x18))) x19) < (x17.length : Int) then (kc2 k x9 x10 x11 x12 x13 x15 x16 (x17.set ((rd (rd_L1 x13 (wrap64 ((wrap64 (x16 * x9)) + x18))) x19) : Int).toNat (wrap64 ((rd x17 (rd (rd_L1 x13 (wrap64 ((wrap64 (x16 * x9)) + x18))) x19)) + 1))) x18 (wrap64 (x19 + 1))) else false) else false))) else false) else (kc1 k x9 x10 x11 x12 x13 x15 x16 x17 (wrap64 (x18 + 1)))) else false) else false
def kc3 : Nat → Int → Int → Int → Int → List (List Int) → Int → Int → List Int → Int → Bool
  | 0, _, _, _, _, _, _, _, _, _ => false
  | k + 1, x9, x10, x11, x12, x13, x15, x16, x17, x21 => if x21 < x15 then (if 0 ≤ x21 then (if x21 < (x17.length : Int) then (if (rd x17 x21) = 1 then (kc3 k x9 x10 x11 x12 x13 x15 x16 x17 (wrap64 (x21 + 1))) else false) else false) else false) else (kc0 k x9 x10 x11 x12 x13 x15 (wrap64 (x16 + 1)))
end
theorem kc_ev (x9 x10 x11 x12 : Int) (x13 : List (List Int)) (x15 : Int) (v : Bool) (hJ : Ev (fun k => (if x12 = 3 then (neonwrightlaw05_FindKautz.j6 k x10 x11 x12 x13 x15 (decide (x15 > 25))) else (neonwrightlaw05_FindKautz.j6 k x10 x11 x12 x13 x15 false))) v) : ∀ k,
    (∀ x16, kc0 k x9 x10 x11 x12 x13 x15 x16 = true → Ev (fun k => neonwrightlaw05_FindKautz.l0 k x9 x10 x11 x12 x13 x15 x16) v) ∧
    (∀ x16 x17 x18, kc1 k x9 x10 x11 x12 x13 x15 x16 x17 x18 = true → Ev (fun k => neonwrightlaw05_FindKautz.l1 k x9 x10 x11 x12 x13 x15 x16 x17 x18) v) ∧
    (∀ x16 x17 x18 x19, kc2 k x9 x10 x11 x12 x13 x15 x16 x17 x18 x19 = true → Ev (fun k => neonwrightlaw05_FindKautz.l2 k x9 x10 x11 x12 x13 x15 x16 x17 x18 x19) v) ∧
    (∀ x16 x17 x21, kc3 k x9 x10 x11 x12 x13 x15 x16 x17 x21 = true → Ev (fun k => neonwrightlaw05_FindKautz.l3 k x9 x10 x11 x12 x13 x15 x16 x17 x21) v) := by
  intro k
  induction k with
  | zero => exact ⟨fun _ h => by simp [kc0] at h, fun _ _ _ h => by simp [kc1] at h, fun _ _ _ _ h => by simp [kc2] at h, fun _ _ _ h => by simp [kc3] at h⟩
  | succ k ih =>
    obtain ⟨ih0, ih1, ih2, ih3⟩ := ih
    refine ⟨fun x16 h => ?_, fun x16 x17 x18 h => ?_, fun x16 x17 x18 x19 h => ?_, fun x16 x17 x21 h => ?_⟩
    · simp only [kc0] at h
      by_cases c1 : x16 < x11
      · rw [if_pos c1] at h
        by_cases c2 : 0 ≤ x15
        · rw [if_pos c2] at h
          by_cases c3 : x15.toNat ≤ 35184372088832
          · rw [if_pos c3] at h
            exact Ev.step (fun k => by simp only [neonwrightlaw05_FindKautz.l0]; rw [if_pos c1, if_pos c2, if_pos c3]) (ih1 _ _ _ h)
          · rw [if_neg c3] at h; exact absurd h (by simp)
        · rw [if_neg c2] at h; exact absurd h (by simp)
      · exact Ev.step (fun k => by simp only [neonwrightlaw05_FindKautz.l0]; rw [if_neg c1]) hJ
    · simp only [kc1] at h
      by_cases c1 : x18 < x9
      · rw [if_pos c1] at h
        exact Ev.step (fun k => by simp only [neonwrightlaw05_FindKautz.l1]; rw [if_pos c1]) (ih2 _ _ _ _ h)
      · rw [if_neg c1] at h
        exact Ev.step (fun k => by simp only [neonwrightlaw05_FindKautz.l1]; rw [if_neg c1]) (ih3 _ _ _ h)
    · simp only [kc2] at h
      split at h
      · rename_i c1
        split at h
        · rename_i c2
          split at h
          · rename_i c3
            split at h
            · rename_i c4
              split at h
              · exact absurd h (by simp)
              · rename_i c5
                split at h
                · exact absurd h (by simp)
                · rename_i c6
                  split at h
                  · rename_i c7
                    split at h
                    · rename_i c8
                      exact Ev.step (fun k => by simp only [neonwrightlaw05_FindKautz.l2]; rw [if_pos c1, if_pos c2, if_pos c3, if_pos c4, if_neg c5, if_neg c6, if_pos c7, if_pos c8]) (ih2 _ _ _ _ h)
                    · exact absurd h (by simp)
                  · exact absurd h (by simp)
            · exact absurd h (by simp)
          · rename_i c3
            exact Ev.step (fun k => by simp only [neonwrightlaw05_FindKautz.l2]; rw [if_pos c1, if_pos c2, if_neg c3]) (ih1 _ _ _ h)
        · exact absurd h (by simp)
      · exact absurd h (by simp)
    · simp only [kc3] at h
      split at h
      · rename_i c1
        split at h
        · rename_i c2
          split at h
          · rename_i c3
            split at h
            · rename_i c4
              exact Ev.step (fun k => by simp only [neonwrightlaw05_FindKautz.l3]; rw [if_pos c1, if_pos c2, if_pos c3, if_pos c4]) (ih3 _ _ _ h)
            · exact absurd h (by simp)
          · exact absurd h (by simp)
        · exact absurd h (by simp)
      · rename_i c1
        exact Ev.step (fun k => by simp only [neonwrightlaw05_FindKautz.l3]; rw [if_neg c1]) (ih0 _ h)
def chkC (i j r m : Nat) : Bool := decide (r < 1) || (decide (prim i < r) || kc0 1500 (prim i : Int) ((j : Int) + 1) (r : Int) (m : Int) (dkz i j r) (tubesOf i j : Int) 0)
theorem chkC_yes : ∀ i : Nat, i < 4 → ∀ j : Nat, j < 2 → ∀ r : Nat, r < 8 → ∀ m : Nat, m < 4 → chkC i j r m = true := by decide +kernel
theorem kc_yes (i : Nat) (hi : i < 4) (j : Nat) (hj : j < 2) (r : Nat) (hr : r < 8) (h1 : 1 ≤ r) (h2 : r ≤ prim i) (m : Nat) (hm : m < 4) : kc0 1500 (prim i : Int) ((j : Int) + 1) (r : Int) (m : Int) (dkz i j r) (tubesOf i j : Int) 0 = true := by
  have h := chkC_yes i hi j hj r hr m hm
  unfold chkC at h
  rw [decide_eq_false (by omega), decide_eq_false (by omega), Bool.false_or, Bool.false_or] at h
  exact h
theorem dkz_len : ∀ i : Nat, i < 4 → ∀ j : Nat, j < 2 → ∀ r : Nat, r < 8 → 1 ≤ r → r ≤ prim i → (((dkz i j r).length : Int) != wrap64 ((prim i : Int) * (r : Int))) = false := by decide +kernel
theorem kz_j6 (i j r m : Nat) (hi : i < 4) (hj : j < 2) (hr1 : 1 ≤ r) (hr : r ≤ prim i) (hm : m < 4) (b : Bool) (hb : b = false → ¬ (m = 3 ∧ 25 < tubesOf i j)) :
    Ev (fun k => neonwrightlaw05_FindKautz.j6 k ((j : Int) + 1) (r : Int) (m : Int) (dkz i j r) (tubesOf i j : Int) b) true := by
  have hp : prim i ≤ 7 := by
    have : ∀ i : Nat, i < 4 → prim i ≤ 7 := by decide +kernel
    exact this i hi
  cases b with
  | true =>
    refine Ev.step (f := fun k => (neonwrightlaw05_alive.f k).bind fun t => some t) (fun k => ?_) (Ev.bnd alive_ev (Ev.now true))
    simp only [neonwrightlaw05_FindKautz.j6]; rfl
  | false =>
    have hH : hidP (tubesOf i j : Int) (dkz i j r) (m : Int) = (hidL (tubesOf i j) (dkz i j r) m, 0) := by
      unfold hidP
      rw [if_pos (dkz_of i hi j hj r (by omega) hr1 hr), if_pos (by omega), Int.toNat_natCast, Int.toNat_natCast]
    have hw : wrap64 ((m : Int) * wrap64 (((j : Int) + 1) - 1)) = ((m * j : Nat) : Int) := by
      have : ∀ j : Nat, j < 2 → ∀ m : Nat, m < 4 → wrap64 ((m : Int) * wrap64 (((j : Int) + 1) - 1)) = ((m * j : Nat) : Int) := by decide +kernel
      exact this j hj m hm
    refine Ev.step (f := fun k => (if ((m * j : Nat) : Int) ≥ (r : Int) then ((neonwrightlaw05_alive.f k).bind fun t188 => (some t188)) else (if ((hidL (tubesOf i j) (dkz i j r) m).length : Int) = 0 then ((neonwrightlaw05_alive.f k).bind fun t189 => (some t189)) else (some false)))) (fun k => ?_) ?_
    · simp only [neonwrightlaw05_FindKautz.j6]
      unfold find_Hidden.f
      rw [if_neg (by decide), Option.bind_some, hH, hw, if_pos rfl]
    · by_cases hc : ((m * j : Nat) : Int) ≥ (r : Int)
      · exact Ev.pos hc (Ev.bnd alive_ev (Ev.now true))
      · refine Ev.neg hc (Ev.pos ?_ (Ev.bnd alive_ev (Ev.now true)))
        rw [hid_none i j r m hi hj hr1 hr hm (hb rfl) (by omega)]; rfl
theorem u8_wf {a : Int} (h : (Lit.int .u8 a).wf = true) : 0 ≤ a ∧ a ≤ 255 := by
  have h : (decide (IntKind.u8.min ≤ a) && decide (a ≤ IntKind.u8.max)) = true := h
  rw [Bool.and_eq_true, decide_eq_true_eq, decide_eq_true_eq] at h
  exact h
theorem FindKautz (a0 a1 a2 a3 : Int) (w0 : (Lit.int .u8 a0).wf = true) (w1 : (Lit.int .u8 a1).wf = true) (w2 : (Lit.int .u8 a2).wf = true) (w3 : (Lit.int .u8 a3).wf = true) : ∃ k, neonwrightlaw05_FindKautz.f k a0 a1 a2 a3 = some true := by
  refine Ev.rounds ?_
  have u0 := u8_wf w0
  have u1 := u8_wf w1
  have u2 := u8_wf w2
  have u3 := u8_wf w3
  obtain ⟨i, hi⟩ := Int.eq_ofNat_of_zero_le (show 0 ≤ Int.tmod a0 4 by rw [Int.tmod_eq_emod_of_nonneg u0.1]; omega)
  obtain ⟨j, hj⟩ := Int.eq_ofNat_of_zero_le (show 0 ≤ Int.tmod a1 2 by rw [Int.tmod_eq_emod_of_nonneg u1.1]; omega)
  obtain ⟨m, hm⟩ := Int.eq_ofNat_of_zero_le (show 0 ≤ Int.tmod a3 4 by rw [Int.tmod_eq_emod_of_nonneg u3.1]; omega)
  have hi4 : i < 4 := by rw [Int.tmod_eq_emod_of_nonneg u0.1] at hi; omega
  have hj2 : j < 2 := by rw [Int.tmod_eq_emod_of_nonneg u1.1] at hj; omega
  have hm4 : m < 4 := by rw [Int.tmod_eq_emod_of_nonneg u3.1] at hm; omega
  have hp : 2 ≤ prim i ∧ prim i ≤ 7 := by
    have : ∀ i : Nat, i < 4 → 2 ≤ prim i ∧ prim i ≤ 7 := by decide +kernel
    exact this i hi4
  have hrd : rd [2, 3, 5, 7] (i : Int) = (prim i : Int) := by
    have : ∀ i : Nat, i < 4 → rd [2, 3, 5, 7] (i : Int) = (prim i : Int) := by decide +kernel
    exact this i hi4
  have hj01 : j = 0 ∨ j = 1 := by omega
  have hw2 : ∀ _ : Unit, wrap64 a2 = a2 := fun _ => w64 (by omega) (by omega)
  have hs0 : 0 ≤ Int.tmod a2 (prim i : Int) ∧ Int.tmod a2 (prim i : Int) < (prim i : Int) := by
    rw [Int.tmod_eq_emod_of_nonneg u2.1]
    exact ⟨Int.emod_nonneg _ (by omega), Int.emod_lt_of_pos _ (by omega)⟩
  obtain ⟨s, hs⟩ := Int.eq_ofNat_of_zero_le hs0.1
  rw [hs] at hs0
  have hr : ∀ _ : Unit, wrap64 (1 + (s : Int)) = ((s + 1 : Nat) : Int) := fun _ => by rw [w64 (by omega) (by omega)]; omega
  have hjw : ∀ _ : Unit, wrap64 (1 + wrap64 (j : Int)) = (j : Int) + 1 := fun _ => by
    have : ∀ j : Nat, j < 2 → wrap64 (1 + wrap64 (j : Int)) = (j : Int) + 1 := by decide +kernel
    exact this j hj2
  have hmw : ∀ _ : Unit, wrap64 (m : Int) = (m : Int) := fun _ => w64 (by omega) (by omega)
  have hE : ∀ k, neonwrightlaw05_FindKautz.f k a0 a1 a2 a3 = ((find_Kautz.f k (prim i : Int) ((j : Int) + 1) ((s + 1 : Nat) : Int)).bind fun bt170 => neonwrightlaw05_FindKautz.j0 k (prim i : Int) ((j : Int) + 1) ((s + 1 : Nat) : Int) (m : Int) bt170.1 bt170.2 (tubesOf i j : Int)) := by
    intro k
    unfold neonwrightlaw05_FindKautz.f
    rw [Option.bind_some, hi, hj, hm, hw2 (), hrd, hs, hr (), hjw (), hmw (), if_pos (by omega), if_pos (show (i : Int) < (([2, 3, 5, 7] : List Int).length : Int) by simp; omega), if_neg (by omega)]
    refine congrArg (Option.bind _) (funext fun bt => ?_)
    rcases hj01 with rfl | rfl
    · have t0 : tubesOf i 0 = prim i := by unfold tubesOf; exact if_neg (by decide)
      rw [if_neg (by decide), t0]
    · rw [if_pos (by decide)]
      have : wrap64 ((prim i : Int) * (prim i : Int)) = (tubesOf i 1 : Int) := by
        have : ∀ i : Nat, i < 4 → wrap64 ((prim i : Int) * (prim i : Int)) = (tubesOf i 1 : Int) := by decide +kernel
        exact this i hi4
      rw [this]
  refine Ev.congr hE (Ev.bnd (Ev.of (fun k => find_Kautz.mono _ _ _ k) (dkz_is i hi4 j hj2 (s + 1) (by omega) (by omega) (by omega))) ?_)
  refine Ev.step (f := fun k => neonwrightlaw05_FindKautz.j1 k (prim i : Int) ((j : Int) + 1) ((s + 1 : Nat) : Int) (m : Int) (dkz i j (s + 1)) (tubesOf i j : Int) false) (fun k => ?_) (Ev.step (f := fun k => neonwrightlaw05_FindKautz.l0 k (prim i : Int) ((j : Int) + 1) ((s + 1 : Nat) : Int) (m : Int) (dkz i j (s + 1)) (tubesOf i j : Int) 0) (fun k => ?_) ?_)
  · simp only [neonwrightlaw05_FindKautz.j0]
    rw [if_pos trivial, dkz_len i hi4 j hj2 (s + 1) (by omega) (by omega) (by omega)]
  · simp only [neonwrightlaw05_FindKautz.j1]
    rw [if_neg (by decide)]
  · refine (kc_ev _ _ _ _ _ _ true ?_ 1500).1 0 (kc_yes i hi4 j hj2 (s + 1) (by omega) (by omega) (by omega) m hm4)
    by_cases h3 : (m : Int) = 3
    · refine Ev.pos h3 (kz_j6 i j (s + 1) m hi4 hj2 (by omega) (by omega) hm4 _ fun hb => ?_)
      have := of_decide_eq_false hb
      omega
    · exact Ev.neg h3 (kz_j6 i j (s + 1) m hi4 hj2 (by omega) (by omega) hm4 _ fun hb => by omega)
end Go.Proofs.YtglajokjiphafaaDoor.Pure
