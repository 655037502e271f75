/- Several texts of this session in one file, in build order: FGray, FGrays. -/
import Derived.Test.YtnakkdaeehglnaaJB2
import Derived.Test.YtnakkdaeehglnaaJFlashChanges2
set_option linter.unusedSimpArgs false
set_option linter.unusedVariables false
namespace Go.Proofs.Ytnakkdaeehglnaa.P
open Go.RowKit Go.Proofs.YtnakkdaeehglnaaW.PrintWords Go.Proofs.YtnakkdaeehglnaaW.PrintMore Go.Proofs.Ytnakkdaeehglnaa.Kit

/-- What both say of a place, or of a state: the error alone, or what ok gives. -/
def inTubes (n i : Int) : Bool := decide ((1 ≤ n ∧ n ≤ 12) ∧ 0 ≤ i ∧ i < ((2 ^ n.toNat : Nat) : Int))
def grayR (n i : Int) : Int × Int := if inTubes n i = true then ((gray i.toNat : Int), 0) else (0, 2)
def rankR (n s : Int) : Int × Int := if inTubes n s = true then ((rankN 13 s.toNat : Int), 0) else (0, 2)
theorem pow12 {n : Nat} (h : n ≤ 12) : 2 ^ n ≤ 4096 := by
  have : 2 ^ n ≤ 2 ^ 12 := Nat.pow_le_pow_right (by decide) h
  simpa using this
theorem gray_bits {i : Nat} (h : i < 4096) : Go.bits .xor .i64 (i : Int) (wrap64 (Int.tdiv (i : Int) 2)) = (gray i : Int) := by
  have h2 : Int.tdiv (i : Int) 2 = ((i / 2 : Nat) : Int) := tdivn i 2
  rw [h2, w64n _ (by omega), xor64 i (i / 2) (by omega) (by omega)]
  rfl
theorem gray_f (n i : Int) : flash_Gray.f n i = some (grayR n i) := by
  unfold flash_Gray.f grayR inTubes
  rw [sized_f, Option.bind_some]
  by_cases hn : 1 ≤ n ∧ n ≤ 12
  · obtain ⟨m, rfl⟩ : ∃ m : Nat, n = m := ⟨n.toNat, by omega⟩
    have hp := pow12 (n := m) (by omega)
    rw [decide_eq_true hn, if_pos rfl, Int.toNat_natCast]
    by_cases h0 : i < 0
    · rw [if_pos h0, decide_eq_false (by omega), if_neg (by decide)]
    · rw [if_neg h0, if_pos (by omega), shl1n (by omega)]
      by_cases h1 : i ≥ ((2 ^ m : Nat) : Int)
      · rw [if_pos h1, decide_eq_false (by omega), if_neg (by decide)]
      · obtain ⟨j, rfl⟩ : ∃ j : Nat, i = j := ⟨i.toNat, by omega⟩
        rw [if_neg h1, decide_eq_true (by omega), if_pos rfl, gray_bits (by omega), Int.toNat_natCast]
  · rw [decide_eq_false hn, if_neg (by decide), decide_eq_false (fun h => hn h.1), if_neg (by decide)]
theorem rgray_l0 : ∀ (t i out : Nat), t ≤ 12 → i < 4096 → out < 100000 → i < 2 ^ t → out + 2 ^ t ≤ 100000 → Ev (fun k => neonwrightref04_Gray.l0 k (i : Int) (out : Int) ((t : Int) - 1)) ((upN t i out : Int), 0) := by
  intro t
  induction t with
  | zero =>
    intro i out _ _ _ _ _
    refine Ev.step (f := fun _ => some ((out : Int), 0)) (fun k => ?_) (Ev.now _)
    simp only [neonwrightref04_Gray.l0]
    rw [if_neg (by omega)]
  | succ t ih =>
    intro i out ht hi ho hit hop
    have hp := pow12 (n := t) (by omega)
    have hp0 := Nat.two_pow_pos t
    have e0 : (((t + 1 : Nat) : Int) - 1) = (t : Int) := by omega
    have e1 : wrap64 ((t : Int) - 1) = (t : Int) - 1 := w64 (by omega) (by omega)
    have e2 : wrap64 ((t : Int) + 1) = ((t + 1 : Nat) : Int) := by rw [w64 (by omega) (by omega)]; rfl
    rw [Nat.pow_succ] at hit hop
    rw [e0]
    by_cases hb : 2 ^ t ≤ i
    · have h := ih (2 ^ (t + 1) - 1 - i) (out + 2 ^ t) (by omega) (by rw [Nat.pow_succ]; omega) (by omega) (by rw [Nat.pow_succ]; omega) (by omega)
      unfold upN
      rw [if_pos hb]
      refine Ev.step (f := fun k => neonwrightref04_Gray.l0 k ((2 ^ (t + 1) - 1 - i : Nat) : Int) ((out + 2 ^ t : Nat) : Int) ((t : Int) - 1)) (fun k => ?_) h
      simp only [neonwrightref04_Gray.l0]
      have hq : 2 ^ (t + 1) = 2 ^ t * 2 := Nat.pow_succ 2 t
      rw [if_pos (by omega), if_pos (by omega), shl1n (by omega), if_pos (by omega), e2, if_pos (by omega), shl1n (by omega), e1, hq]
      generalize 2 ^ t = p at hp hp0 hb hit hop
      rw [w64 (x := ((p * 2 : Nat) : Int) - 1) (by omega) (by omega), w64 (x := ((p * 2 : Nat) : Int) - 1 - (i : Int)) (by omega) (by omega), w64 (x := (out : Int) + (p : Int)) (by omega) (by omega)]
      rw [show ((p * 2 - 1 - i : Nat) : Int) = ((p * 2 : Nat) : Int) - 1 - (i : Int) from by omega]
      rfl
    · have h := ih i out (by omega) hi ho (by omega) (by omega)
      unfold upN
      rw [if_neg hb]
      refine Ev.step (f := fun k => neonwrightref04_Gray.l0 k (i : Int) (out : Int) ((t : Int) - 1)) (fun k => ?_) h
      simp only [neonwrightref04_Gray.l0]
      rw [if_pos (by omega), if_pos (by omega), shl1n (by omega), if_neg (by omega), e1]
theorem rgray_ev (n i : Int) : Ev (fun k => neonwrightref04_Gray.f k n i) (grayR n i) := by
  unfold grayR inTubes
  by_cases hn : 1 ≤ n ∧ n ≤ 12
  · obtain ⟨m, rfl⟩ : ∃ m : Nat, n = m := ⟨n.toNat, by omega⟩
    have hp := pow12 (n := m) (by omega)
    rw [Int.toNat_natCast]
    by_cases h0 : i < 0
    · rw [decide_eq_false (by omega), if_neg (by decide)]
      refine Ev.congr (f := fun k => neonwrightref04_Gray.j0 k (m : Int) i true) (fun k => ?_) (Ev.step (f := fun _ => some (0, 2)) (fun k => ?_) (Ev.now _))
      · show neonwrightref04_Gray.f k _ _ = _
        unfold neonwrightref04_Gray.f
        rw [tubes_f, Option.bind_some, decide_eq_true hn, if_pos rfl, if_pos h0]
      · simp only [neonwrightref04_Gray.j0]; rfl
    · by_cases h1 : i ≥ ((2 ^ m : Nat) : Int)
      · rw [decide_eq_false (by omega), if_neg (by decide)]
        refine Ev.congr (f := fun k => neonwrightref04_Gray.j0 k (m : Int) i true) (fun k => ?_) (Ev.step (f := fun _ => some (0, 2)) (fun k => ?_) (Ev.now _))
        · show neonwrightref04_Gray.f k _ _ = _
          unfold neonwrightref04_Gray.f
          rw [tubes_f, Option.bind_some, decide_eq_true hn, if_pos rfl, if_neg h0, if_pos (by omega), shl1n (by omega), decide_eq_true h1]
        · simp only [neonwrightref04_Gray.j0]; rfl
      · obtain ⟨j, rfl⟩ : ∃ j : Nat, i = j := ⟨i.toNat, by omega⟩
        rw [decide_eq_true (by omega), if_pos rfl, Int.toNat_natCast]
        have h := rgray_l0 m j 0 (by omega) (by omega) (by omega) (by omega) (by omega)
        rw [up_gray m j 0 (by omega), Nat.zero_add] at h
        refine Ev.congr (f := fun k => neonwrightref04_Gray.j0 k (m : Int) (j : Int) false) (fun k => ?_) (Ev.step (f := fun k => neonwrightref04_Gray.l0 k (j : Int) ((0 : Nat) : Int) ((m : Int) - 1)) (fun k => ?_) h)
        · show neonwrightref04_Gray.f k _ _ = _
          unfold neonwrightref04_Gray.f
          rw [tubes_f, Option.bind_some, decide_eq_true hn, if_pos rfl, if_neg h0, if_pos (by omega), shl1n (by omega), decide_eq_false h1]
        · simp only [neonwrightref04_Gray.j0]
          rw [if_neg (by decide), w64 (x := (m : Int) - 1) (by omega) (by omega)]
          rfl
  · rw [decide_eq_false (fun h => hn h.1), if_neg (by decide)]
    refine Ev.congr (f := fun k => neonwrightref04_Gray.j0 k n i true) (fun k => ?_) (Ev.step (f := fun _ => some (0, 2)) (fun k => ?_) (Ev.now _))
    · show neonwrightref04_Gray.f k _ _ = _
      unfold neonwrightref04_Gray.f
      rw [tubes_f, Option.bind_some, decide_eq_false hn, if_neg (by decide)]
    · simp only [neonwrightref04_Gray.j0]; rfl
theorem rank_l0 : ∀ (f x out : Nat), x < 2 ^ f → x < 4096 → out < 4096 → Ev (fun k => flash_Rank.l0 k (x : Int) (out : Int)) (((out ^^^ rankN f x : Nat) : Int), 0) := by
  intro f
  induction f with
  | zero =>
    intro x out hx _ _
    have : x = 0 := by simpa using hx
    subst this
    refine Ev.step (f := fun _ => some ((out : Int), 0)) (fun k => ?_) ?_
    · simp only [flash_Rank.l0]; rw [if_neg (by omega)]
    · unfold rankN; rw [Nat.xor_zero]; exact Ev.now _
  | succ f ih =>
    intro x out hx hx2 ho
    rw [Nat.pow_succ] at hx
    unfold rankN
    by_cases h0 : 0 < x
    · rw [if_pos h0]
      have hxo : out ^^^ x < 4096 := Nat.xor_lt_two_pow (n := 12) ho hx2
      have h := ih (x / 2) (out ^^^ x) (by omega) (by omega) hxo
      rw [Nat.xor_assoc] at h
      refine Ev.step (f := fun k => flash_Rank.l0 k ((x / 2 : Nat) : Int) ((out ^^^ x : Nat) : Int)) (fun k => ?_) h
      simp only [flash_Rank.l0]
      rw [if_pos (by omega), show Int.tdiv (x : Int) 2 = ((x / 2 : Nat) : Int) from tdivn x 2, w64n _ (by omega), xor64 out x (by omega) (by omega)]
    · rw [if_neg h0, Nat.xor_zero]
      refine Ev.step (f := fun _ => some ((out : Int), 0)) (fun k => ?_) (Ev.now _)
      simp only [flash_Rank.l0]; rw [if_neg (by omega)]
theorem rank_ev (n s : Int) : Ev (fun k => flash_Rank.f k n s) (rankR n s) := by
  unfold rankR inTubes
  by_cases hn : 1 ≤ n ∧ n ≤ 12
  · obtain ⟨m, rfl⟩ : ∃ m : Nat, n = m := ⟨n.toNat, by omega⟩
    have hp := pow12 (n := m) (by omega)
    rw [Int.toNat_natCast]
    by_cases h0 : s < 0
    · rw [decide_eq_false (by omega), if_neg (by decide)]
      refine Ev.congr (f := fun k => flash_Rank.j0 k s true) (fun k => ?_) (Ev.step (f := fun _ => some (0, 2)) (fun k => ?_) (Ev.now _))
      · show flash_Rank.f k _ _ = _
        unfold flash_Rank.f
        rw [sized_f, Option.bind_some, decide_eq_true hn, if_pos rfl, if_pos h0]
      · simp only [flash_Rank.j0]; rfl
    · by_cases h1 : s ≥ ((2 ^ m : Nat) : Int)
      · rw [decide_eq_false (by omega), if_neg (by decide)]
        refine Ev.congr (f := fun k => flash_Rank.j0 k s true) (fun k => ?_) (Ev.step (f := fun _ => some (0, 2)) (fun k => ?_) (Ev.now _))
        · show flash_Rank.f k _ _ = _
          unfold flash_Rank.f
          rw [sized_f, Option.bind_some, decide_eq_true hn, if_pos rfl, if_neg h0, if_pos (by omega), shl1n (by omega), decide_eq_true h1]
        · simp only [flash_Rank.j0]; rfl
      · obtain ⟨j, rfl⟩ : ∃ j : Nat, s = j := ⟨s.toNat, by omega⟩
        rw [decide_eq_true (by omega), if_pos rfl, Int.toNat_natCast]
        have h := rank_l0 13 j 0 (by show j < 8192; omega) (by omega) (by omega)
        rw [Nat.zero_xor] at h
        refine Ev.congr (f := fun k => flash_Rank.j0 k (j : Int) false) (fun k => ?_) (Ev.step (f := fun k => flash_Rank.l0 k (j : Int) ((0 : Nat) : Int)) (fun k => ?_) h)
        · show flash_Rank.f k _ _ = _
          unfold flash_Rank.f
          rw [sized_f, Option.bind_some, decide_eq_true hn, if_pos rfl, if_neg h0, if_pos (by omega), shl1n (by omega), decide_eq_false h1]
        · simp only [flash_Rank.j0]; rfl
  · rw [decide_eq_false (fun h => hn h.1), if_neg (by decide)]
    refine Ev.congr (f := fun k => flash_Rank.j0 k s true) (fun k => ?_) (Ev.step (f := fun _ => some (0, 2)) (fun k => ?_) (Ev.now _))
    · show flash_Rank.f k _ _ = _
      unfold flash_Rank.f
      rw [sized_f, Option.bind_some, decide_eq_false hn, if_neg (by decide)]
    · simp only [flash_Rank.j0]; rfl
theorem rrank_l0 (n s : Nat) (hn : n ≤ 12) (hs : s < 4096) : ∀ (d t : Nat), t + d = n → Ev (fun k => neonwrightref04_Rank.l0 k (n : Int) (s : Int) (placeN s t : Int) (t : Int)) ((placeN s n : Int), 0) := by
  intro d
  induction d with
  | zero =>
    intro t h
    obtain rfl : t = n := by omega
    refine Ev.step (f := fun _ => some ((placeN s t : Int), 0)) (fun k => ?_) (Ev.now _)
    simp only [neonwrightref04_Rank.l0]
    rw [if_neg (by omega)]
  | succ d ih =>
    intro t h
    have h1 := ih (t + 1) (by omega)
    have hp := pow12 (n := t + 1) (by omega)
    have hlt := (place_gray s t).1
    have hq : 2 ^ (t + 1) = 2 ^ t * 2 := Nat.pow_succ 2 t
    have e2 : wrap64 ((t : Int) + 1) = ((t + 1 : Nat) : Int) := by rw [w64 (by omega) (by omega)]; rfl
    refine Ev.step (f := fun k => neonwrightref04_Rank.l0 k (n : Int) (s : Int) (placeN s (t + 1) : Int) ((t + 1 : Nat) : Int)) (fun k => ?_) h1
    simp only [neonwrightref04_Rank.l0]
    rw [if_pos (by omega), if_pos (by omega), shrn (by omega), show (2 : Int) = ((2 : Nat) : Int) from rfl, tmodn, e2]
    have hpl : placeN s (t + 1) = if s / 2 ^ t % 2 = 1 then 2 ^ (t + 1) - 1 - placeN s t else placeN s t := rfl
    rw [hpl]
    by_cases hb : s / 2 ^ t % 2 = 1
    · rw [if_pos (by omega), if_pos (by omega), if_pos hb, shl1n (by omega)]
      generalize placeN s t = p at hlt
      generalize 2 ^ t = u at hlt hq
      rw [hq] at hp ⊢
      rw [w64 (x := ((u * 2 : Nat) : Int) - 1) (by omega) (by omega), w64 (x := ((u * 2 : Nat) : Int) - 1 - (p : Int)) (by omega) (by omega)]
      rw [show ((u * 2 - 1 - p : Nat) : Int) = ((u * 2 : Nat) : Int) - 1 - (p : Int) from by omega]
    · rw [if_neg (by omega), if_neg hb]
theorem place_rank {n s : Nat} (hn : n ≤ 12) (hs : s < 2 ^ n) : rankN 13 s = placeN s n := by
  obtain ⟨h1, h2⟩ := place_gray s n
  rw [Nat.mod_eq_of_lt hs] at h2
  have hp := pow12 hn
  have h := rank_gray 13 (placeN s n) (by show _ < 8192; omega)
  rw [h2] at h
  exact h
theorem rrank_ev (n s : Int) : Ev (fun k => neonwrightref04_Rank.f k n s) (rankR n s) := by
  unfold rankR inTubes
  by_cases hn : 1 ≤ n ∧ n ≤ 12
  · obtain ⟨m, rfl⟩ : ∃ m : Nat, n = m := ⟨n.toNat, by omega⟩
    have hp := pow12 (n := m) (by omega)
    rw [Int.toNat_natCast]
    by_cases h0 : s < 0
    · rw [decide_eq_false (by omega), if_neg (by decide)]
      refine Ev.congr (f := fun k => neonwrightref04_Rank.j0 k (m : Int) s true) (fun k => ?_) (Ev.step (f := fun _ => some (0, 2)) (fun k => ?_) (Ev.now _))
      · show neonwrightref04_Rank.f k _ _ = _
        unfold neonwrightref04_Rank.f
        rw [tubes_f, Option.bind_some, decide_eq_true hn, if_pos rfl, if_pos h0]
      · simp only [neonwrightref04_Rank.j0]; rfl
    · by_cases h1 : s ≥ ((2 ^ m : Nat) : Int)
      · rw [decide_eq_false (by omega), if_neg (by decide)]
        refine Ev.congr (f := fun k => neonwrightref04_Rank.j0 k (m : Int) s true) (fun k => ?_) (Ev.step (f := fun _ => some (0, 2)) (fun k => ?_) (Ev.now _))
        · show neonwrightref04_Rank.f k _ _ = _
          unfold neonwrightref04_Rank.f
          rw [tubes_f, Option.bind_some, decide_eq_true hn, if_pos rfl, if_neg h0, if_pos (by omega), shl1n (by omega), decide_eq_true h1]
        · simp only [neonwrightref04_Rank.j0]; rfl
      · obtain ⟨j, rfl⟩ : ∃ j : Nat, s = j := ⟨s.toNat, by omega⟩
        rw [decide_eq_true (by omega), if_pos rfl, Int.toNat_natCast, place_rank (n := m) (by omega) (by omega)]
        have h := rrank_l0 m j (by omega) (by omega) m 0 (by omega)
        refine Ev.congr (f := fun k => neonwrightref04_Rank.j0 k (m : Int) (j : Int) false) (fun k => ?_) (Ev.step (f := fun k => neonwrightref04_Rank.l0 k (m : Int) (j : Int) ((0 : Nat) : Int) ((0 : Nat) : Int)) (fun k => ?_) h)
        · show neonwrightref04_Rank.f k _ _ = _
          unfold neonwrightref04_Rank.f
          rw [tubes_f, Option.bind_some, decide_eq_true hn, if_pos rfl, if_neg h0, if_pos (by omega), shl1n (by omega), decide_eq_false h1]
        · simp only [neonwrightref04_Rank.j0]; rfl
  · rw [decide_eq_false (fun h => hn h.1), if_neg (by decide)]
    refine Ev.congr (f := fun k => neonwrightref04_Rank.j0 k n s true) (fun k => ?_) (Ev.step (f := fun _ => some (0, 2)) (fun k => ?_) (Ev.now _))
    · show neonwrightref04_Rank.f k _ _ = _
      unfold neonwrightref04_Rank.f
      rw [tubes_f, Option.bind_some, decide_eq_false hn, if_neg (by decide)]
    · simp only [neonwrightref04_Rank.j0]; rfl
end Go.Proofs.Ytnakkdaeehglnaa.P

set_option linter.unusedSimpArgs false
set_option linter.unusedVariables false
namespace Go.Proofs.Ytnakkdaeehglnaa.P
open Go.Lib Go.RowKit Go.Proofs.YtnakkdaeehglnaaW.PrintWords Go.Proofs.YtnakkdaeehglnaaW.PrintMore Go.Proofs.Ytnakkdaeehglnaa.Kit

/-- All states in the order of the reflected code. -/
def grays (m : Nat) : List Int := (List.range m).map fun (i : Nat) => (gray i : Int)
theorem grays_len (m : Nat) : (grays m).length = m := by unfold grays; rw [List.length_map, List.length_range]
theorem grays_get (m i : Nat) (h : i < (grays m).length) : (grays m)[i] = (gray i : Int) := by simp only [grays, List.getElem_map, List.getElem_range]
theorem grays_rd (m i : Nat) (h : i < m) : rd (grays m) (i : Int) = (gray i : Int) := by
  rw [rd_get _ i (by rw [grays_len]; exact h), grays_get]
theorem grays_fine {n : Nat} (h1 : 1 ≤ n) (h2 : n ≤ 12) : Fine n (grays (2 ^ n)) := by
  refine ⟨h1, h2, by rw [grays_len]; exact Nat.two_pow_pos n, by rw [grays_len]; exact Nat.le_refl _, fun x hx => ?_⟩
  unfold grays at hx
  obtain ⟨i, hi, rfl⟩ := List.mem_map.1 hx
  have := gray_lt n i (List.mem_range.1 hi)
  omega
theorem grays_path {n : Nat} (h1 : 1 ≤ n) (h2 : n ≤ 12) : pathB (grays (2 ^ n)) = true := by
  have hp := pow12 h2
  refine pathB_all (fun j hj => ?_)
  have hj2 := hj
  rw [grays_len] at hj2
  unfold pStep
  rw [Bool.and_eq_true, Bool.not_eq_true', Bool.eq_false_iff]
  constructor
  · intro hc
    rw [List.contains_iff_mem, List.mem_take_iff_getElem] at hc
    obtain ⟨i, hi, e⟩ := hc
    rw [grays_get, grays_rd _ j hj2] at e
    have := gray_inj (i := i) (j := j) (by omega)
    omega
  · rw [Bool.or_eq_true]
    by_cases h0 : j = 0
    · exact .inl (decide_eq_true h0)
    · right
      rw [show (j : Int) - 1 = ((j - 1 : Nat) : Int) from by omega, grays_rd _ _ (by omega), grays_rd _ j hj2]
      have g1 := gray_lt n j hj2
      have g2 := gray_lt n (j - 1) (by omega)
      rw [nx_comm, nx_one (by omega) (by omega), Int.toNat_natCast, Int.toNat_natCast]
      obtain ⟨t, ht, _⟩ := gray_next j j (by omega) (Nat.le_refl _)
      rw [ht]
      exact one_pow t
theorem grays_closed {n : Nat} (h1 : 1 ≤ n) (h2 : n ≤ 12) : closedB (grays (2 ^ n)) = decide (1 < n) := by
  have hp := pow12 h2
  have hp0 := Nat.two_pow_pos n
  unfold closedB
  rw [grays_len]
  by_cases h : 1 < n
  · have h4 : 4 ≤ 2 ^ n := by
      have : 2 ^ 2 ≤ 2 ^ n := Nat.pow_le_pow_right (by decide) h
      simpa using this
    have hq : 2 ^ (n - 1) ≤ 2 ^ n := Nat.pow_le_pow_right (by decide) (by omega)
    have hq2 : 2 ^ (n - 1) < 2 ^ n := Nat.pow_lt_pow_right (by decide) (by omega)
    have h0 := grays_rd (2 ^ n) 0 (by omega)
    rw [show ((0 : Nat) : Int) = 0 from rfl] at h0
    have h5 : 2 ^ (n - 1) < 4096 := by omega
    have hz1 : (0 : Int) ≤ ((2 ^ (n - 1) : Nat) : Int) ∧ ((2 ^ (n - 1) : Nat) : Int) < 4096 := ⟨Int.natCast_nonneg _, Int.ofNat_lt.2 h5⟩
    rw [decide_eq_true h4, decide_eq_true h, Bool.true_and, grays_rd _ _ (by omega), h0, gray_last n h1, gray_zero, nx_one (a := ((0 : Nat) : Int)) ⟨by decide, by decide⟩ hz1]
    rw [Int.toNat_natCast, Int.toNat_natCast, Nat.zero_xor]
    exact one_pow (n - 1)
  · obtain rfl : n = 1 := by omega
    rfl
end Go.Proofs.Ytnakkdaeehglnaa.P
