/- Gray lists every state once, each a neighbour of the next one; from two tubes on the last one is a neighbour of the first one; Rank is its inverse: for every number of tubes. -/
import Derived.Test.YtnakkdaeehglnaaJFlashAll1
set_option linter.unusedSimpArgs false
set_option linter.unusedVariables false
namespace Go.Proofs.Ytnakkdaeehglnaa.Pure
open Go.RowKit Go.Proofs.YtnakkdaeehglnaaW.PrintWords Go.Proofs.YtnakkdaeehglnaaW.PrintMore Go.Proofs.Ytnakkdaeehglnaa.Kit Go.Proofs.Ytnakkdaeehglnaa.P

theorem one_f {x : Nat} (h : x < 4611686018427387904) : neonwrightlaw04_one.f (x : Int) = some (oneN x) := by
  unfold neonwrightlaw04_one.f oneN
  by_cases h0 : 0 < x
  · rw [if_pos (by omega), w64 (x := (x : Int) - 1) (by omega) (by omega), show (x : Int) - 1 = ((x - 1 : Nat) : Int) from by omega, and64 x (x - 1) (by omega) (by omega), decide_eq_true h0, Bool.true_and]
    congr 1
    rw [Bool.eq_iff_iff, beq_iff_eq, beq_iff_eq]
    omega
  · rw [if_neg (by omega), decide_eq_false h0]
    rfl
/-- Which states have been seen. -/
def marks (n i : Nat) : List Bool := (List.range i).foldl (fun acc j => acc.set (gray j) true) (List.replicate (2 ^ n) false)
theorem marks_succ (n i : Nat) : marks n (i + 1) = (marks n i).set (gray i) true := by
  unfold marks
  rw [List.range_succ, List.foldl_append, List.foldl_cons, List.foldl_nil]
theorem marks_len (n i : Nat) : (marks n i).length = 2 ^ n := by
  induction i with
  | zero => unfold marks; simp
  | succ i ih => rw [marks_succ, List.length_set, ih]
theorem marks_new (n : Nat) : ∀ i x, i ≤ x → (marks n i)[gray x]?.getD false = false := by
  intro i
  induction i with
  | zero =>
    intro x _
    unfold marks
    simp only [List.range_zero, List.foldl_nil, List.getElem?_replicate]
    split <;> rfl
  | succ i ih =>
    intro x hx
    rw [marks_succ, List.getElem?_set_ne (fun e => by have := gray_inj e; omega)]
    exact ih x (by omega)
theorem all_l0 (n : Nat) (h1 : 1 ≤ n) (h2 : n ≤ 12) : ∀ (d i : Nat), i + d = 2 ^ n → Ev (fun k => neonwrightlaw04_FlashAll.l0 k (n : Int) (marks n i) (if i = 0 then 0 else (gray (i - 1) : Int)) 0 (i : Int)) true := by
  have hp := pow12 h2
  have hp0 := Nat.two_pow_pos n
  intro d
  induction d with
  | zero =>
    intro i h
    have hi : i = 2 ^ n := by omega
    rw [if_neg (by omega), hi, gray_last n h1]
    have hx : Go.bits .xor .i64 ((2 ^ (n - 1) : Nat) : Int) 0 = ((2 ^ (n - 1) : Nat) : Int) := by
      have hq : 2 ^ (n - 1) ≤ 2 ^ n := Nat.pow_le_pow_right (by decide) (by omega)
      have := xor64 (2 ^ (n - 1)) 0 (by omega) (by omega)
      rw [Nat.xor_zero] at this
      exact this
    by_cases hn : n < 2
    · refine Ev.step (f := fun k => (neonwrightlaw04_alive.f k).bind fun t223 => (some t223)) (fun k => ?_) (Ev.bnd alive_ev (Ev.now true))
      simp only [neonwrightlaw04_FlashAll.l0]
      rw [if_pos (by omega), shl1n (by omega), if_neg (by omega), if_pos (by omega)]
    · refine Ev.step (f := fun k => (neonwrightlaw04_alive.f k).bind fun t225 => (some t225)) (fun k => ?_) (Ev.bnd alive_ev (Ev.now true))
      have hq : 2 ^ (n - 1) ≤ 2 ^ n := Nat.pow_le_pow_right (by decide) (by omega)
      simp only [neonwrightlaw04_FlashAll.l0]
      rw [if_pos (by omega), shl1n (by omega), if_neg (by omega), if_neg (by omega), hx, one_f (by omega), one_pow, Option.bind_some, if_pos rfl]
  | succ d ih =>
    intro i h
    have hi : i < 2 ^ n := by omega
    have hg := gray_lt n i hi
    have hin : inTubes (n : Int) (i : Int) = true := decide_eq_true ⟨⟨by omega, by omega⟩, by omega, by rw [Int.toNat_natCast]; omega⟩
    have hin2 : inTubes (n : Int) (gray i : Int) = true := decide_eq_true ⟨⟨by omega, by omega⟩, by omega, by rw [Int.toNat_natCast]; omega⟩
    have hG : grayR (n : Int) (i : Int) = ((gray i : Int), 0) := by unfold grayR; rw [if_pos hin, Int.toNat_natCast]
    have hR : rankR (n : Int) (gray i : Int) = ((i : Int), 0) := by unfold rankR; rw [if_pos hin2, Int.toNat_natCast, rank_gray 13 i (by show i < 8192; omega)]
    have hr := rank_ev (n : Int) (gray i : Int)
    rw [hR] at hr
    have hl := marks_len n i
    have hm : rdOf false (marks n i) (gray i : Int) = false := by
      unfold rdOf
      rw [Int.toNat_natCast, List.getD_eq_getElem?_getD]
      exact marks_new n i i (Nat.le_refl _)
    have hnx := ih (i + 1) (by omega)
    rw [if_neg (by omega), show i + 1 - 1 = i from rfl, marks_succ] at hnx
    have hone : ∀ t : Int, t = (if i = 0 then 0 else (gray (i - 1) : Int)) → 0 < i → neonwrightlaw04_one.f (Go.bits .xor .i64 (gray i : Int) t) = some true := by
      intro t ht h0
      obtain ⟨u, hu, hle⟩ := gray_next i i h0 (Nat.le_refl _)
      have hg1 := gray_lt n (i - 1) (by omega)
      rw [ht, if_neg (by omega), xor64 _ _ (by omega) (by omega), hu, one_f (by omega), one_pow]
    generalize (if i = 0 then (0 : Int) else (gray (i - 1) : Int)) = last at hone
    have hgb := gray_bits (i := i) (by omega)
    have hj : Ev (fun k => neonwrightlaw04_FlashAll.j1 k (n : Int) (marks n i) 0 (i : Int) (gray i : Int) false) true := by
      refine Ev.step (f := fun k => neonwrightlaw04_FlashAll.l0 k (n : Int) ((marks n i).set (gray i) true) (gray i : Int) 0 ((i + 1 : Nat) : Int)) (fun k => ?_) hnx
      simp only [neonwrightlaw04_FlashAll.j1]
      rw [if_neg (by decide), if_pos (by omega), if_pos (by omega), Option.bind_some, Int.toNat_natCast, w64 (x := (i : Int) + 1) (by omega) (by omega)]
      by_cases h0 : i = 0
      · subst h0
        rw [if_pos (by rfl)]
        rfl
      · rw [if_neg (by omega)]
        rfl
    refine Ev.step (f := fun k => (flash_Rank.f k (n : Int) (gray i : Int)).bind fun bt228 => if bt228.2 = 0 then (if bt228.1 = (i : Int) then neonwrightlaw04_FlashAll.j1 k (n : Int) (marks n i) 0 (i : Int) (gray i : Int) false else neonwrightlaw04_FlashAll.j1 k (n : Int) (marks n i) 0 (i : Int) (gray i : Int) true) else neonwrightlaw04_FlashAll.j1 k (n : Int) (marks n i) 0 (i : Int) (gray i : Int) true) (fun k => ?_) (Ev.bnd hr (Ev.pos rfl (Ev.pos rfl hj)))
    simp only [neonwrightlaw04_FlashAll.l0]
    rw [if_pos (by omega), shl1n (by omega), if_pos (by omega), gray_f, hG, Option.bind_some]
    congr 1
    funext bt
    rw [if_pos rfl]
    by_cases hb : bt.2 = 0
    · rw [if_pos hb, if_pos hb, if_neg (by omega), if_neg (by omega), if_pos (by omega), if_pos (by omega), hm, if_neg (by decide)]
      by_cases hc : bt.1 = (i : Int)
      · rw [if_pos hc, if_pos hc, hgb, if_pos rfl]
        by_cases h0 : 0 < i
        · rw [if_pos (by omega), hone last rfl h0, Option.bind_some]
          rfl
        · rw [if_neg (by omega)]
      · rw [if_neg hc, if_neg hc]
    · rw [if_neg hb, if_neg hb]
theorem FlashAll : neonwrightlaw04_FlashAll.Pure := by
  intro a ha
  have h := castu8 ha
  obtain ⟨m, rfl⟩ : ∃ m : Nat, a = m := ⟨a.toNat, by omega⟩
  refine Ev.rounds (g := fun k => neonwrightlaw04_FlashAll.f k (m : Int)) ?_
  have e1 : wrap64 (Int.tmod (m : Int) 12) = ((m % 12 : Nat) : Int) := by rw [show (12 : Int) = ((12 : Nat) : Int) from rfl, tmodn, w64n _ (by omega)]
  have e2 : wrap64 (1 + ((m % 12 : Nat) : Int)) = ((1 + m % 12 : Nat) : Int) := by rw [w64 (by omega) (by omega)]; rfl
  have hp := pow12 (n := 1 + m % 12) (by omega)
  refine Ev.congr (f := fun k => neonwrightlaw04_FlashAll.l0 k ((1 + m % 12 : Nat) : Int) (marks (1 + m % 12) 0) 0 0 ((0 : Nat) : Int)) (fun k => ?_) (by simpa using all_l0 (1 + m % 12) (by omega) (by omega) (2 ^ (1 + m % 12)) 0 (by omega))
  show neonwrightlaw04_FlashAll.f k (m : Int) = _
  unfold neonwrightlaw04_FlashAll.f
  have hpos : (0 : Int) ≤ ((2 ^ (1 + m % 12) : Nat) : Int) := Int.natCast_nonneg _
  rw [e1, e2, if_pos (by omega), shl1n (by omega), if_pos hpos, Int.toNat_natCast, if_pos (by omega)]
  rfl
end Go.Proofs.Ytnakkdaeehglnaa.Pure
