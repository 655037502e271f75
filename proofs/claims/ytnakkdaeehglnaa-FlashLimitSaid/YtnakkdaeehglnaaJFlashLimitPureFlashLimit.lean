/- A list with one state more than there are states is refused with ErrLimit; a list of all states is accepted: for every number of tubes. -/
import Derived.Test.YtnakkdaeehglnaaJFlashLimit1
import Derived.Test.YtnakkdaeehglnaaJFlashLimit2
set_option linter.unusedSimpArgs false
set_option linter.unusedVariables false
namespace Go.Proofs.Ytnakkdaeehglnaa.Pure
open Go.Lib Go.RowKit Go.Proofs.YtnakkdaeehglnaaW.PrintWords Go.Proofs.YtnakkdaeehglnaaW.PrintMore Go.Proofs.Ytnakkdaeehglnaa.Kit Go.Proofs.Ytnakkdaeehglnaa.P

/-- All states in the order of the reflected code. -/
def grays (m : Nat) : List Int := (List.range m).map fun (i : Nat) => (gray i : Int)
theorem grays_len (m : Nat) : (grays m).length = m := by unfold grays; rw [List.length_map, List.length_range]
theorem grays_get (m i : Nat) (h : i < (grays m).length) : (grays m)[i] = (gray i : Int) := by simp only [grays, List.getElem_map, List.getElem_range]
theorem grays_rd (m i : Nat) (h : i < m) : rd (grays m) (i : Int) = (gray i : Int) := by
  rw [rd_get _ i (by rw [grays_len]; exact h), grays_get]
theorem grays_fine {n : Nat} (h1 : 1 ≤ n) (h2 : n ≤ 12) : Fine n (grays (2 ^ n)) := by
  refine ⟨h1, h2, by rw [grays_len]; exact Nat.two_pow_pos n, by rw [grays_len]; exact Nat.le_refl _, fun x hx => ?_⟩
  unfold grays at hx
  obtain ⟨i, hi, rfl⟩ := List.mem_map.1 hx
  have := gray_lt n i (List.mem_range.1 hi)
  omega
theorem grays_path {n : Nat} (h1 : 1 ≤ n) (h2 : n ≤ 12) : pathB (grays (2 ^ n)) = true := by
  have hp := pow12 h2
  refine pathB_all (fun j hj => ?_)
  have hj2 := hj
  rw [grays_len] at hj2
  unfold pStep
  rw [Bool.and_eq_true, Bool.not_eq_true', Bool.eq_false_iff]
  constructor
  · intro hc
    rw [List.contains_iff_mem, List.mem_take_iff_getElem] at hc
    obtain ⟨i, hi, e⟩ := hc
    rw [grays_get, grays_rd _ j hj2] at e
    have := gray_inj (i := i) (j := j) (by omega)
    omega
  · rw [Bool.or_eq_true]
    by_cases h0 : j = 0
    · exact .inl (decide_eq_true h0)
    · right
      rw [show (j : Int) - 1 = ((j - 1 : Nat) : Int) from by omega, grays_rd _ _ (by omega), grays_rd _ j hj2]
      have g1 := gray_lt n j hj2
      have g2 := gray_lt n (j - 1) (by omega)
      rw [nx_comm, nx_one (by omega) (by omega), Int.toNat_natCast, Int.toNat_natCast]
      obtain ⟨t, ht, _⟩ := gray_next j j (by omega) (Nat.le_refl _)
      rw [ht]
      exact one_pow t
theorem grays_closed {n : Nat} (h1 : 1 ≤ n) (h2 : n ≤ 12) : closedB (grays (2 ^ n)) = decide (1 < n) := by
  have hp := pow12 h2
  have hp0 := Nat.two_pow_pos n
  unfold closedB
  rw [grays_len]
  by_cases h : 1 < n
  · have h4 : 4 ≤ 2 ^ n := by
      have : 2 ^ 2 ≤ 2 ^ n := Nat.pow_le_pow_right (by decide) h
      simpa using this
    have hq : 2 ^ (n - 1) ≤ 2 ^ n := Nat.pow_le_pow_right (by decide) (by omega)
    have hq2 : 2 ^ (n - 1) < 2 ^ n := Nat.pow_lt_pow_right (by decide) (by omega)
    have h0 := grays_rd (2 ^ n) 0 (by omega)
    rw [show ((0 : Nat) : Int) = 0 from rfl] at h0
    have h5 : 2 ^ (n - 1) < 4096 := by omega
    have hz1 : (0 : Int) ≤ ((2 ^ (n - 1) : Nat) : Int) ∧ ((2 ^ (n - 1) : Nat) : Int) < 4096 := ⟨Int.natCast_nonneg _, Int.ofNat_lt.2 h5⟩
    rw [decide_eq_true h4, decide_eq_true h, Bool.true_and, grays_rd _ _ (by omega), h0, gray_last n h1, gray_zero, nx_one (a := ((0 : Nat) : Int)) ⟨by decide, by decide⟩ hz1]
    rw [Int.toNat_natCast, Int.toNat_natCast, Nat.zero_xor]
    exact one_pow (n - 1)
  · obtain rfl : n = 1 := by omega
    rfl
theorem limit_l0 {n : Nat} (h1 : 1 ≤ n) (h2 : n ≤ 12) (more : Bool) (r : Bool) (hR : Ev (fun k => neonwrightlaw04_FlashLimit.j1 k more (n : Int) (if more = true then grays (2 ^ n) ++ [0] else grays (2 ^ n))) r) : ∀ d i, 2 ^ n - i = d → i ≤ 2 ^ n →
    Ev (fun k => neonwrightlaw04_FlashLimit.l0 k more (n : Int) ((2 ^ n : Nat) : Int) (grays i ++ List.replicate (2 ^ n - i) 0) (i : Int)) r := by
  have hp := pow12 h2
  intro d
  induction d with
  | zero =>
    intro i hd hi
    obtain rfl : i = 2 ^ n := by omega
    rw [Nat.sub_self, List.replicate_zero, List.append_nil]
    refine Ev.step (f := fun k => neonwrightlaw04_FlashLimit.j1 k more (n : Int) (if more = true then grays (2 ^ n) ++ [0] else grays (2 ^ n))) (fun k => ?_) hR
    simp only [neonwrightlaw04_FlashLimit.l0]
    rw [if_neg (by omega)]
    cases more with
    | true => rw [if_pos (by trivial), if_pos (by rw [grays_len]; omega), if_pos rfl]
    | false => rw [if_neg (by decide), if_neg (by decide)]
  | succ d ih =>
    intro i hd hi
    have hil : i < 2 ^ n := by omega
    have hnext := ih (i + 1) (by omega) (by omega)
    have hin : inTubes (n : Int) (i : Int) = true := decide_eq_true ⟨⟨by omega, by omega⟩, by omega, by rw [Int.toNat_natCast]; omega⟩
    have hG := rgray_ev (n : Int) (i : Int)
    have hg : grayR (n : Int) (i : Int) = ((gray i : Int), 0) := by unfold grayR; rw [if_pos hin, Int.toNat_natCast]
    rw [hg] at hG
    have hset : (grays i ++ List.replicate (2 ^ n - i) 0).set i (gray i : Int) = grays (i + 1) ++ List.replicate (2 ^ n - (i + 1)) 0 := by
      rw [List.set_append_right _ _ (by rw [grays_len]; exact Nat.le_refl _), grays_len, Nat.sub_self, show 2 ^ n - i = (2 ^ n - (i + 1)) + 1 from by omega, List.replicate_succ, List.set_cons_zero]
      unfold grays
      rw [List.range_succ, List.map_append, List.append_assoc]
      rfl
    have hlen : (grays i ++ List.replicate (2 ^ n - i) (0 : Int)).length = 2 ^ n := by rw [List.length_append, grays_len, List.length_replicate]; omega
    rw [← hset] at hnext
    generalize grays i ++ List.replicate (2 ^ n - i) (0 : Int) = x7 at hlen hnext
    refine Ev.step (f := fun k => (neonwrightref04_Gray.f k (n : Int) (i : Int)).bind fun bt458 => neonwrightlaw04_FlashLimit.l0 k more (n : Int) ((2 ^ n : Nat) : Int) (x7.set i bt458.1) ((i + 1 : Nat) : Int)) (fun k => ?_) (Ev.bnd hG hnext)
    simp only [neonwrightlaw04_FlashLimit.l0]
    rw [if_pos (by omega)]
    congr 1
    funext bt
    rw [if_pos (by omega), if_pos (by omega), Int.toNat_natCast, w64 (x := (i : Int) + 1) (by omega) (by omega)]
    rfl
theorem limit_j1 {n : Nat} (h1 : 1 ≤ n) (h2 : n ≤ 12) (more : Bool) : Ev (fun k => neonwrightlaw04_FlashLimit.j1 k more (n : Int) (if more = true then grays (2 ^ n) ++ [0] else grays (2 ^ n))) true := by
  have hp := pow12 h2
  cases more with
  | true =>
    rw [if_pos rfl]
    have hl : listedN (n : Int) (grays (2 ^ n) ++ [0]) = 3 := by
      unfold listedN
      rw [if_pos (by omega), Int.toNat_natCast, if_pos (by rw [List.length_append, grays_len, List.length_singleton]; omega)]
    have hpr : pathR (n : Int) (grays (2 ^ n) ++ [0]) = (false, false, 3) := by unfold pathR; rw [hl, if_neg (by decide)]
    have hcr : changesR (n : Int) (grays (2 ^ n) ++ [0]) = ([], 3) := by unfold changesR; rw [hl, if_neg (by decide)]
    have hc := changes_ev (n : Int) (grays (2 ^ n) ++ [0])
    rw [hcr] at hc
    refine Ev.step (f := fun k => ((flash_Changes.f k (n : Int) (grays (2 ^ n) ++ [0])).bind fun bt467 => if bt467.2 = 3 then ((neonwrightlaw04_alive.f k).bind fun t471 => (some t471)) else (some false))) (fun k => ?_) (Ev.bnd hc (Ev.pos rfl (Ev.bnd alive_ev (Ev.now true))))
    simp only [neonwrightlaw04_FlashLimit.j1]
    rw [path_f, hpr, Option.bind_some]
    rfl
  | false =>
    rw [if_neg (by decide)]
    have hf := grays_fine h1 h2
    have hl := fine_listed hf
    have hpa := grays_path h1 h2
    have hcl := grays_closed h1 h2
    have hpr : pathR (n : Int) (grays (2 ^ n)) = (true, decide (1 < n), 0) := by unfold pathR; rw [if_pos hl, hpa, hcl, Bool.true_and]
    have hcr : (changesR (n : Int) (grays (2 ^ n))).2 = 0 := by unfold changesR; rw [if_pos hl, if_pos hpa]
    have hc := changes_ev (n : Int) (grays (2 ^ n))
    have hd : (decide (1 < n) == decide ((n : Int) > 1)) = true := by
      rw [beq_iff_eq, Bool.eq_iff_iff, decide_eq_true_eq, decide_eq_true_eq]
      omega
    refine Ev.step (f := fun k => ((flash_Changes.f k (n : Int) (grays (2 ^ n))).bind fun bt467 => if bt467.2 = 0 then ((neonwrightlaw04_alive.f k).bind fun t472 => (some t472)) else (some false))) (fun k => ?_) (Ev.bnd hc (Ev.pos hcr (Ev.bnd alive_ev (Ev.now true))))
    simp only [neonwrightlaw04_FlashLimit.j1]
    rw [path_f, hpr, Option.bind_some]
    congr 1
    funext bt
    rw [if_neg (by decide), if_pos rfl, if_pos hd, if_pos rfl]
theorem FlashLimit : neonwrightlaw04_FlashLimit.Pure := by
  intro a more ha
  have h := castu8 ha
  obtain ⟨m, rfl⟩ : ∃ m : Nat, a = m := ⟨a.toNat, by omega⟩
  refine Ev.rounds (g := fun k => neonwrightlaw04_FlashLimit.f k (m : Int) more) ?_
  have e1 : wrap64 (Int.tmod (m : Int) 12) = ((m % 12 : Nat) : Int) := by rw [show (12 : Int) = ((12 : Nat) : Int) from rfl, tmodn, w64n _ (by omega)]
  have e2 : wrap64 (1 + ((m % 12 : Nat) : Int)) = ((1 + m % 12 : Nat) : Int) := by rw [w64 (by omega) (by omega)]; rfl
  have hp := pow12 (n := 1 + m % 12) (by omega)
  have h1 := limit_l0 (n := 1 + m % 12) (by omega) (by omega) more true (limit_j1 (by omega) (by omega) more) (2 ^ (1 + m % 12)) 0 (Nat.sub_zero _) (Nat.zero_le _)
  refine Ev.congr (f := fun k => neonwrightlaw04_FlashLimit.l0 k more ((1 + m % 12 : Nat) : Int) ((2 ^ (1 + m % 12) : Nat) : Int) (grays 0 ++ List.replicate (2 ^ (1 + m % 12) - 0) 0) ((0 : Nat) : Int)) (fun k => ?_) h1
  show neonwrightlaw04_FlashLimit.f k (m : Int) more = _
  unfold neonwrightlaw04_FlashLimit.f
  have hpos : (0 : Int) ≤ ((2 ^ (1 + m % 12) : Nat) : Int) := Int.natCast_nonneg _
  rw [e1, e2, if_pos (by omega), shl1n (by omega), if_pos hpos, Int.toNat_natCast, if_pos (by omega), Nat.sub_zero]
  rfl
end Go.Proofs.Ytnakkdaeehglnaa.Pure
