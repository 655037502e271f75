/- A snake with one more state is a snake exactly if Grow returns that state; Longest cannot grow; no snake has more states than Longest, and no coil more than Coil, for at most four tubes (beyond 600 states the statement asks the closed example alone). -/
import Derived.Test.YtnakkdaeehglnaaJFlashGrown1
import Derived.Test.YtnakkdaeehglnaaJFlashGrown2
set_option linter.unusedSimpArgs false
set_option linter.unusedVariables false
namespace Go.Proofs.Ytnakkdaeehglnaa.Pure
open Go.Lib Go.RowKit Go.Proofs.YtnakkdaeehglnaaW.PrintWords Go.Proofs.YtnakkdaeehglnaaW.PrintMore Go.Proofs.Ytnakkdaeehglnaa.Kit Go.Proofs.Ytnakkdaeehglnaa.P

def chkBest (n : Nat) : Bool := match flash_Longest.f (n : Int), flash_Coil.f (n : Int) with
  | some (L, e), some (C, f) => decide (e = 0) && decide (growR (n : Int) L = ([], 0)) && decide (L.length = mostN n) && (if n = 1 then decide (f = 10) else decide (f = 0) && decide (2 * (mostN n / 2 + mostN n % 2) ≤ C.length))
  | _, _ => false
theorem chk_best : (chkBest 1 && chkBest 2 && chkBest 3 && chkBest 4) = true := by decide +kernel
theorem chk_all {n : Nat} (h1 : 1 ≤ n) (h4 : n ≤ 4) : chkBest n = true := by
  have h := chk_best
  rw [Bool.and_eq_true, Bool.and_eq_true, Bool.and_eq_true] at h
  obtain ⟨⟨⟨a, b⟩, c⟩, d⟩ := h
  rcases (show n = 1 ∨ n = 2 ∨ n = 3 ∨ n = 4 by omega) with rfl | rfl | rfl | rfl
  · exact a
  · exact b
  · exact c
  · exact d
theorem best {n : Nat} (h1 : 1 ≤ n) (h4 : n ≤ 4) : ∃ L C f, flash_Longest.f (n : Int) = some (L, 0) ∧ flash_Coil.f (n : Int) = some (C, f) ∧ growR (n : Int) L = ([], 0) ∧ L.length = mostN n ∧ (1 < n → f = 0 ∧ 2 * (mostN n / 2 + mostN n % 2) ≤ C.length) := by
  have h := chk_all h1 h4
  unfold chkBest at h
  cases hl : flash_Longest.f (n : Int) with
  | none => rw [hl] at h; cases h
  | some r =>
    cases hc : flash_Coil.f (n : Int) with
    | none => rw [hl, hc] at h; cases h
    | some q =>
      rw [hl, hc] at h
      obtain ⟨L, e⟩ := r
      obtain ⟨C, f⟩ := q
      simp only [Bool.and_eq_true, decide_eq_true_eq] at h
      obtain ⟨⟨⟨a, b⟩, c⟩, d⟩ := h
      subst a
      refine ⟨L, C, f, rfl, rfl, b, c, fun hn => ?_⟩
      rw [if_neg (by omega), Bool.and_eq_true, decide_eq_true_eq, decide_eq_true_eq] at d
      exact d
theorem fg_j2 {n : Nat} {l : List Int} (h : Fine n l) : Ev (fun k => neonwrightlaw04_FlashGrown.j2 k (n : Int) l (pathB l && snakeB l false) (pathB l && closedB l && snakeB l true)) true := by
  have hal : Ev (fun k => (neonwrightlaw04_alive.f k).bind fun t313 => (some t313)) true := Ev.bnd alive_ev (Ev.now true)
  have hle := h.le
  by_cases h4 : n ≤ 4
  · obtain ⟨L, C, f, e1, e2, e3, e4, e5⟩ := best h.n1 h4
    have hg := grow_ev (n : Int) L
    rw [e3] at hg
    have hj3 : Ev (fun k => neonwrightlaw04_FlashGrown.j3 k (n : Int) l (pathB l && snakeB l false) (pathB l && closedB l && snakeB l true) L C false) true := by
      have hcl : (pathB l && closedB l && snakeB l true) = true → (l.length : Int) ≤ (C.length : Int) := by
        intro hc
        rw [Bool.and_eq_true, Bool.and_eq_true] at hc
        have h5 := coil_most h h4 hc.1.1 hc.1.2 hc.2
        have := (e5 (by omega)).2
        omega
      have hsl : (pathB l && snakeB l false) = true → (l.length : Int) ≤ (L.length : Int) := by
        intro hs
        rw [Bool.and_eq_true] at hs
        have h5 := snake_most h h4 hs.1 hs.2
        omega
      generalize (pathB l && snakeB l false) = s at hsl
      generalize (pathB l && closedB l && snakeB l true) = c at hcl
      refine Ev.step (f := fun k => (flash_Grow.f k (n : Int) L).bind fun bt322 => (if bt322.2 = 0 then (if (bt322.1.length : Int) = 0 then (if s = true then (if (l.length : Int) ≤ (L.length : Int) then (if c = true then (if (l.length : Int) ≤ (C.length : Int) then ((neonwrightlaw04_alive.f k).bind fun t326 => (some t326)) else (some false)) else ((neonwrightlaw04_alive.f k).bind fun t327 => (some t327))) else (some false)) else (if c = true then (if (l.length : Int) ≤ (C.length : Int) then ((neonwrightlaw04_alive.f k).bind fun t328 => (some t328)) else (some false)) else ((neonwrightlaw04_alive.f k).bind fun t329 => (some t329)))) else (some false)) else (some false))) (fun k => ?_) (Ev.bnd hg (Ev.pos rfl (Ev.pos rfl ?_)))
      · simp only [neonwrightlaw04_FlashGrown.j3]
        rw [if_neg (by decide)]
      · have hc' : Ev (fun k => if c = true then (if (l.length : Int) ≤ (C.length : Int) then ((neonwrightlaw04_alive.f k).bind fun t326 => (some t326)) else (some false)) else ((neonwrightlaw04_alive.f k).bind fun t327 => (some t327))) true := by
          cases c with
          | true => exact Ev.pos rfl (Ev.pos (hcl rfl) hal)
          | false => exact Ev.neg (by decide) hal
        cases s with
        | true => exact Ev.pos rfl (Ev.pos (hsl rfl) hc')
        | false => exact Ev.neg (by decide) hc'
    refine Ev.step (fun k => ?_) hj3
    simp only [neonwrightlaw04_FlashGrown.j2]
    rw [if_neg (by omega), e1, Option.bind_some, e2, Option.bind_some]
    simp only [if_true]
    by_cases hn1 : 1 < n
    · rw [if_pos (e5 hn1).1]
    · rw [decide_eq_false (by omega)]
      split <;> rfl
  · refine Ev.step (fun k => ?_) hal
    simp only [neonwrightlaw04_FlashGrown.j2]
    rw [if_pos (by omega)]
theorem fg_l0 {n : Nat} {l : List Int} (h : Fine n l) (hl : (l.length : Int) ≤ 600) (hp : pathB l = true) (hs : snakeB l false = true) (hlt : l.length < 2 ^ n) (x : Int) (hx : 0 ≤ x ∧ x < ((2 ^ n : Nat) : Int)) (s c : Bool) (hj : Ev (fun k => neonwrightlaw04_FlashGrown.j2 k (n : Int) l s c) true) :
    ∀ d i, (growL n l).length - i = d → i ≤ (growL n l).length → Ev (fun k => neonwrightlaw04_FlashGrown.l0 k (n : Int) l (growL n l) s c x (((growL n l).take i).contains x) (i : Int)) true := by
  have hgl : (growL n l).length ≤ 4096 := by
    unfold growL growL.ups'
    refine Nat.le_trans (List.length_filter_le _ _) ?_
    rw [List.length_map, List.length_range]
    exact pow12' h.n2
  intro d
  induction d with
  | zero =>
    intro i hd hi
    obtain rfl : i = (growL n l).length := by omega
    rw [List.take_length]
    have hf : Fine n (l ++ [x]) := by
      refine ⟨h.n1, h.n2, by simp, by rw [List.length_append, List.length_singleton]; omega, fun y hy => ?_⟩
      rcases List.mem_append.1 hy with hy | hy
      · exact h.all y hy
      · rw [List.mem_singleton.1 hy]; exact hx
    have hsr := snakeR_ev (n : Int) (l ++ [x])
    have e : snakeR (n : Int) (l ++ [x]) = ((growL n l).contains x, (pathB (l ++ [x]) && closedB (l ++ [x]) && snakeB (l ++ [x]) true), 0) := by
      unfold snakeR
      rw [if_pos (fine_listed hf)]
      congr 1
      rw [Bool.eq_iff_iff, Bool.and_eq_true, grown_iff h.pos hp hs hx, List.contains_iff_mem]
    rw [e] at hsr
    refine Ev.step (f := fun k => (flash_Snake.f k (n : Int) (l ++ [x])).bind fun bt310 => (if bt310.2.2 = 0 then (if (bt310.1 != (growL n l).contains x) = true then (some false) else (neonwrightlaw04_FlashGrown.j2 k (n : Int) l s c)) else (some false))) (fun k => ?_) (Ev.bnd hsr (Ev.pos rfl (Ev.neg (by simp) hj)))
    simp only [neonwrightlaw04_FlashGrown.l0]
    rw [if_neg (by omega), Option.bind_some, if_pos (by simp; omega), Option.bind_some, if_pos (by simp; omega), List.nil_append]
  | succ d ih =>
    intro i hd hi
    have hil : i < (growL n l).length := by omega
    have hnext := ih (i + 1) (by omega) (by omega)
    have hw : wrap64 ((i : Int) + 1) = ((i + 1 : Nat) : Int) := by rw [w64 (by omega) (by omega)]; rfl
    have ht : ((growL n l).take (i + 1)).contains x = (((growL n l).take i).contains x || rd (growL n l) (i : Int) == x) := by
      rw [List.take_succ_eq_append_getElem hil, rd_get _ i hil, Bool.eq_iff_iff, Bool.or_eq_true, List.contains_iff_mem, List.contains_iff_mem, List.mem_append, List.mem_singleton, beq_iff_eq]
      exact or_congr Iff.rfl eq_comm
    rw [ht] at hnext
    refine Ev.step (fun k => ?_) hnext
    simp only [neonwrightlaw04_FlashGrown.l0]
    rw [if_pos (by omega)]
    cases ((growL n l).take i).contains x with
    | true => rw [if_pos rfl, hw, Bool.true_or]
    | false => rw [if_neg (by decide), if_pos (by omega), hw, Bool.false_or]
theorem FlashGrown : neonwrightlaw04_FlashGrown.Pure := by
  intro n l u _ _ _ _ hu
  have hu := castu16 hu
  obtain ⟨u, rfl⟩ : ∃ m : Nat, u = m := ⟨u.toNat, by omega⟩
  refine Ev.rounds (g := fun k => neonwrightlaw04_FlashGrown.f k n l (u : Int)) ?_
  have hal : Ev (fun k => (neonwrightlaw04_alive.f k).bind fun t313 => (some t313)) true := Ev.bnd alive_ev (Ev.now true)
  by_cases h : (l.length : Int) ≤ 600
  · refine Ev.congr (f := fun k => (flash_Grow.f k n l).bind fun bt292 => ((flash_Snake.f k n l).bind fun bt296 => (if bt296.2.2 = 0 then (if (bt296.1 != (bt292.2 == 0)) = true then (some false) else (if 0 ≤ n then (if (shl .i64 1 n) = 0 then (none) else (if bt296.1 = true then (neonwrightlaw04_FlashGrown.j0 k n l bt292.1 bt296.1 bt296.2.1 (Int.tmod (wrap64 (u : Int)) (shl .i64 1 n)) (decide ((l.length : Int) < (shl .i64 1 n)))) else (neonwrightlaw04_FlashGrown.j0 k n l bt292.1 bt296.1 bt296.2.1 (Int.tmod (wrap64 (u : Int)) (shl .i64 1 n)) false))) else (none))) else (if bt292.2 = bt296.2.2 then (if (bt292.1.length : Int) = 0 then ((neonwrightlaw04_alive.f k).bind fun t299 => (some t299)) else (some false)) else (some false))))) (fun k => ?_) (Ev.bnd (grow_ev n l) (Ev.bnd (snakeR_ev n l) ?_))
    · show neonwrightlaw04_FlashGrown.f k n l _ = _
      unfold neonwrightlaw04_FlashGrown.f neonwrightlaw04_few.f
      rw [decide_eq_true h, Option.bind_some, if_pos rfl]
    · unfold growR snakeR
      by_cases hz : listedN n l = 0
      · obtain ⟨m, rfl, hf⟩ := listedN_fine hz
        rw [if_pos hz, if_pos hz, Int.toNat_natCast]
        have hn2 := hf.n2
        have hp2 := Nat.two_pow_pos m
        have hp3 := pow12' hn2
        have hxl : u % 2 ^ m < 2 ^ m := Nat.mod_lt _ hp2
        have hx : Int.tmod (wrap64 (u : Int)) (shl .i64 1 (m : Int)) = ((u % 2 ^ m : Nat) : Int) := by rw [w64n _ (by omega), shl1n (by omega), tmodn]
        have hj := fg_j2 hf
        have hno : ∀ (g : List Int) (x : Int), Ev (fun k => neonwrightlaw04_FlashGrown.j0 k (m : Int) l g (pathB l && snakeB l false) (pathB l && closedB l && snakeB l true) x false) true := by
          intro g x
          refine Ev.step (fun k => ?_) hj
          simp only [neonwrightlaw04_FlashGrown.j0]
          rw [if_neg (by decide)]
        refine Ev.pos rfl ?_
        rw [hx, shl1n (by omega)]
        by_cases hb : (pathB l && snakeB l false) = true
        · rw [if_pos hb]
          refine Ev.neg (by rw [hb]; simp) (Ev.pos (by omega) (Ev.neg (by omega) (Ev.pos hb ?_)))
          by_cases hlt : l.length < 2 ^ m
          · rw [decide_eq_true (by omega)]
            have hb2 := hb
            rw [Bool.and_eq_true] at hb2
            have h0 := fg_l0 hf h hb2.1 hb2.2 hlt ((u % 2 ^ m : Nat) : Int) ⟨by omega, by omega⟩ (pathB l && snakeB l false) (pathB l && closedB l && snakeB l true) hj (growL m l).length 0 (by omega) (by omega)
            refine Ev.step (fun k => ?_) h0
            simp only [neonwrightlaw04_FlashGrown.j0]
            rw [if_pos (by trivial), List.take_zero]
            rfl
          · rw [decide_eq_false (by omega)]
            exact hno _ _
        · have hb' : (pathB l && snakeB l false) = false := by simpa using hb
          rw [if_neg hb]
          refine Ev.neg (by rw [hb']; simp) (Ev.pos (by omega) (Ev.neg (by omega) (Ev.neg hb ?_)))
          exact hno _ _
      · rw [if_neg hz, if_neg hz]
        exact Ev.neg hz (Ev.pos rfl (Ev.pos rfl hal))
  · refine Ev.congr (f := fun k => (neonwrightlaw04_alive.f k).bind fun t474 => (some t474)) (fun k => ?_) hal
    show neonwrightlaw04_FlashGrown.f k n l _ = _
    unfold neonwrightlaw04_FlashGrown.f neonwrightlaw04_few.f
    rw [decide_eq_false h, Option.bind_some, if_neg (by decide)]
end Go.Proofs.Ytnakkdaeehglnaa.Pure
