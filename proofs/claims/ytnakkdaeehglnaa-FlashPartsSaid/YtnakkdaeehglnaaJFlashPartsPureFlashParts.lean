/- Every part of a snake is a snake; a coil without one of its states, read from the next state on, is a snake (beyond 600 states the statement asks the closed example alone). -/
import Derived.Test.YtnakkdaeehglnaaJFlashParts1
import Derived.Test.YtnakkdaeehglnaaJFlashParts2
set_option linter.unusedSimpArgs false
set_option linter.unusedVariables false
set_option maxHeartbeats 2000000
namespace Go.Proofs.Ytnakkdaeehglnaa.Pure
open Go.Lib Go.RowKit Go.Proofs.YtnakkdaeehglnaaW.PrintWords Go.Proofs.YtnakkdaeehglnaaW.PrintMore Go.Proofs.Ytnakkdaeehglnaa.Kit Go.Proofs.Ytnakkdaeehglnaa.P

theorem rd_drop {l : List Int} {a i : Nat} (h : a + i < l.length) : rd (l.drop a) (i : Int) = rd l ((a + i : Nat) : Int) := by
  rw [rd_get _ i (by rw [List.length_drop]; omega), rd_get l _ h, List.getElem_drop]
theorem part_rd {l : List Int} {a b i : Nat} (hb : b ≤ l.length) (hi : a + i < b) : rd ((l.take b).drop a) (i : Int) = rd l ((a + i : Nat) : Int) := by
  rw [rd_drop (by rw [List.length_take]; omega), rd_take hi hb]
theorem part_ok {n : Nat} {l : List Int} (h : Fine n l) (hp : pathB l = true) (hs : snakeB l false = true) {a b : Nat} (hab : a < b) (hb : b ≤ l.length) : Fine n ((l.take b).drop a) ∧ pathB ((l.take b).drop a) = true ∧ snakeB ((l.take b).drop a) false = true := by
  have hlen : ((l.take b).drop a).length = b - a := by rw [List.length_drop, List.length_take]; omega
  have := h.len
  rw [path_iff] at *
  rw [snake_iff] at *
  refine ⟨⟨h.n1, h.n2, by omega, by omega, fun x hx => h.all x (List.mem_of_mem_take (List.mem_of_mem_drop hx))⟩, ⟨fun i hi => ?_, fun i j hij hj => ?_⟩, fun i j hij hj => ?_⟩
  · rw [hlen] at hi
    rw [part_rd hb (by omega), part_rd hb (by omega)]
    exact hp.1 (a + i) (by omega)
  · rw [hlen] at hj
    rw [part_rd hb (by omega), part_rd hb (by omega)]
    exact hp.2 _ _ (by omega) (by omega)
  · rw [hlen] at hj
    rw [part_rd hb (by omega), part_rd hb (by omega)]
    exact hs _ _ (by omega) (by omega)
theorem rest_rd {l : List Int} {a i : Nat} (ha : a < l.length) (hi : i + 1 < l.length) : rd (l.drop (a + 1) ++ l.take a) (i : Int) = rd l ((if a + 1 + i < l.length then a + 1 + i else a + 1 + i - l.length : Nat) : Int) := by
  have hl : (l.drop (a + 1) ++ l.take a).length = l.length - 1 := by rw [List.length_append, List.length_drop, List.length_take]; omega
  rw [rd_get _ i (by omega)]
  by_cases h : a + 1 + i < l.length
  · rw [if_pos h, List.getElem_append_left (by rw [List.length_drop]; omega), rd_get l _ h, List.getElem_drop]
  · rw [if_neg h, List.getElem_append_right (by rw [List.length_drop]; omega), rd_get l _ (by omega), List.getElem_take]
    congr 1
    rw [List.length_drop]
    omega
theorem coil_far {l : List Int} (hs : snakeB l true = true) {p q : Nat} (h1 : p + 2 ≤ q) (hq : q < l.length) (h2 : ¬ (p = 0 ∧ q = l.length - 1)) : nx (rd l (p : Int)) (rd l (q : Int)) = false := by
  unfold snakeB at hs
  have h3 := (okFrom_iff _ _ _).1 ((okFrom_iff _ _ _).1 hs p (by omega) (by omega)) q (by omega) (by omega)
  unfold pairOk at h3
  by_cases e : p = 0
  · rw [show decide (q = l.length - 1) = false from decide_eq_false (fun e2 => h2 ⟨e, e2⟩), Bool.and_false, Bool.or_false] at h3
    simpa using h3
  · rw [show decide (p = 0) = false from decide_eq_false e, Bool.and_false, Bool.false_and, Bool.or_false] at h3
    simpa using h3
/-- The place in the coil of a place behind the state that is left out. -/
def behind (a L i : Nat) : Nat := if a + 1 + i < L then a + 1 + i else a + 1 + i - L
theorem behind_lt {a L i : Nat} (ha : a < L) (hi : i + 1 < L) : behind a L i < L := by unfold behind; split <;> omega
theorem behind_next {a L i : Nat} (ha : a < L) (hi : i + 2 < L) : behind a L (i + 1) = behind a L i + 1 ∨ (behind a L i = L - 1 ∧ behind a L (i + 1) = 0) := by unfold behind; split <;> split <;> omega
theorem behind_ne {a L i j : Nat} (ha : a < L) (hij : i < j) (hj : j + 1 < L) : behind a L i ≠ behind a L j := by unfold behind; split <;> split <;> omega
theorem behind_far {a L i j : Nat} (ha : a < L) (hij : i + 2 ≤ j) (hj : j + 1 < L) : (behind a L i + 2 ≤ behind a L j ∧ ¬ (behind a L i = 0 ∧ behind a L j = L - 1)) ∨ (behind a L j + 2 ≤ behind a L i ∧ ¬ (behind a L j = 0 ∧ behind a L i = L - 1)) := by
  unfold behind; split <;> split <;> omega
theorem rest_len {l : List Int} {a : Nat} (ha : a < l.length) : (l.drop (a + 1) ++ l.take a).length = l.length - 1 := by rw [List.length_append, List.length_drop, List.length_take]; omega
theorem rest_rd' {l : List Int} {a i : Nat} (ha : a < l.length) (hi : i + 1 < l.length) : rd (l.drop (a + 1) ++ l.take a) (i : Int) = rd l ((behind a l.length i : Nat) : Int) := rest_rd ha hi
theorem rest_path {l : List Int} (hp : pathB l = true) (hc : closedB l = true) {a : Nat} (ha : a < l.length) : pathB (l.drop (a + 1) ++ l.take a) = true := by
  obtain ⟨h4, hcl⟩ := closed_nx hc
  obtain ⟨p1, p2⟩ := path_iff.1 hp
  refine path_iff.2 ⟨fun i hi => ?_, fun i j hij hj => ?_⟩
  · rw [rest_len ha] at hi
    rw [rest_rd' ha (by omega), rest_rd' ha (by omega)]
    rcases behind_next (i := i) ha (by omega) with e | ⟨e1, e2⟩
    · have hb := behind_lt (i := i + 1) ha (by omega)
      rw [e] at hb ⊢
      exact p1 _ hb
    · rw [e1, e2, nx_comm]
      exact hcl
  · rw [rest_len ha] at hj
    rw [rest_rd' ha (by omega), rest_rd' ha (by omega)]
    have h1 := behind_ne (i := i) ha hij (by omega)
    have hb1 := behind_lt (i := i) ha (by omega)
    have hb2 := behind_lt (i := j) ha (by omega)
    rcases Nat.lt_or_ge (behind a l.length i) (behind a l.length j) with h2 | h2
    · exact p2 _ _ h2 hb2
    · exact fun e => p2 _ _ (by omega : behind a l.length j < behind a l.length i) hb1 e.symm
theorem rest_snake {l : List Int} (hs : snakeB l true = true) {a : Nat} (ha : a < l.length) : snakeB (l.drop (a + 1) ++ l.take a) false = true := by
  refine snake_iff.2 (fun i j hij hj => ?_)
  rw [rest_len ha] at hj
  rw [rest_rd' ha (by omega), rest_rd' ha (by omega)]
  have hb1 := behind_lt (i := i) ha (by omega)
  have hb2 := behind_lt (i := j) ha (by omega)
  rcases behind_far (i := i) ha hij (by omega) with ⟨h1, h2⟩ | ⟨h1, h2⟩
  · exact coil_far hs h1 hb2 h2
  · rw [nx_comm]
    exact coil_far hs h1 hb1 h2
theorem rest_ok {n : Nat} {l : List Int} (h : Fine n l) (hp : pathB l = true) (hc : closedB l = true) (hs : snakeB l true = true) {a : Nat} (ha : a < l.length) : Fine n (l.drop (a + 1) ++ l.take a) ∧ pathB (l.drop (a + 1) ++ l.take a) = true ∧ snakeB (l.drop (a + 1) ++ l.take a) false = true := by
  obtain ⟨h4, _⟩ := closed_nx hc
  have hl := rest_len ha
  have := h.len
  refine ⟨⟨h.n1, h.n2, by omega, by omega, fun x hx => ?_⟩, rest_path hp hc ha, rest_snake hs ha⟩
  rcases List.mem_append.1 hx with hx | hx
  · exact h.all x (List.mem_of_mem_drop hx)
  · exact h.all x (List.mem_of_mem_take hx)
theorem fp_j1 {n : Nat} {l : List Int} (h : Fine n l) (c : Bool) (hc : c = true → pathB l = true ∧ closedB l = true ∧ snakeB l true = true) (a : Nat) (ha : a < l.length) : Ev (fun k => neonwrightlaw04_FlashParts.j1 k (n : Int) l c (a : Int)) true := by
  have hal : Ev (fun k => (neonwrightlaw04_alive.f k).bind fun t313 => (some t313)) true := Ev.bnd alive_ev (Ev.now true)
  have hle := h.le
  have hw : ∀ _ : Unit, wrap64 ((a : Int) + 1) = ((a + 1 : Nat) : Int) := fun _ => by rw [w64 (by omega) (by omega)]; rfl
  cases c with
  | false =>
    refine Ev.step (fun k => ?_) hal
    simp only [neonwrightlaw04_FlashParts.j1]
    rw [if_neg (by decide)]
  | true =>
    obtain ⟨h1, h2, h3⟩ := hc rfl
    obtain ⟨g1, g2, g3⟩ := rest_ok h h1 h2 h3 ha
    have hs := snakeR_ev (n : Int) (l.drop (a + 1) ++ l.take a)
    unfold snakeR at hs
    rw [if_pos (fine_listed g1), g2, g3] at hs
    refine Ev.step (f := fun k => (flash_Snake.f k (n : Int) (l.drop (a + 1) ++ l.take a)).bind fun bt193 => (if bt193.2.2 = 0 then (if bt193.1 = true then ((neonwrightlaw04_alive.f k).bind fun t196 => (some t196)) else (some false)) else (some false))) (fun k => ?_) (Ev.bnd hs (Ev.pos rfl (Ev.pos rfl hal)))
    simp only [neonwrightlaw04_FlashParts.j1]
    rw [if_pos (by trivial), hw (), if_pos (by omega), if_pos (by omega), Int.toNat_natCast, Int.toNat_natCast, if_pos (by rw [List.length_drop, List.length_nil]; omega), Option.bind_some, if_pos (by omega), if_pos (by omega), List.nil_append, if_pos (by rw [List.length_drop, List.length_take]; omega)]
theorem fp_j0 {n : Nat} {l : List Int} (h : Fine n l) (u v : Nat) (hu : u ≤ 65535) (hv : v ≤ 65535) (s c : Bool) (hs : s = true → pathB l = true ∧ snakeB l false = true) (hc : c = true → pathB l = true ∧ closedB l = true ∧ snakeB l true = true) :
    Ev (fun k => neonwrightlaw04_FlashParts.j0 k (n : Int) l (u : Int) (v : Int) s c false) true := by
  have hle := h.le
  have hpos := h.pos
  have ha : u % l.length < l.length := Nat.mod_lt _ hpos
  have e1 : ∀ _ : Unit, Int.tmod (wrap64 (u : Int)) (l.length : Int) = ((u % l.length : Nat) : Int) := fun _ => by rw [w64n _ (by omega), tmodn]
  generalize u % l.length = a at ha e1
  have e2 : ∀ _ : Unit, wrap64 ((l.length : Int) - (a : Int)) = ((l.length - a : Nat) : Int) := fun _ => by rw [w64 (by omega) (by omega)]; omega
  have hb : v % (l.length - a) < l.length - a := Nat.mod_lt _ (by omega)
  have e3 : ∀ _ : Unit, Int.tmod (wrap64 (v : Int)) ((l.length - a : Nat) : Int) = ((v % (l.length - a) : Nat) : Int) := fun _ => by rw [w64n _ (by omega), tmodn]
  generalize v % (l.length - a) = b at hb e3
  have e4 : ∀ _ : Unit, wrap64 ((a : Int) + 1) = ((a + 1 : Nat) : Int) := fun _ => by rw [w64 (by omega) (by omega)]; rfl
  have e5 : ∀ _ : Unit, wrap64 (((a + 1 : Nat) : Int) + (b : Int)) = ((a + 1 + b : Nat) : Int) := fun _ => by rw [w64 (by omega) (by omega)]; omega
  have hj := fp_j1 h c hc a ha
  cases s with
  | false =>
    refine Ev.step (fun k => ?_) hj
    simp only [neonwrightlaw04_FlashParts.j0]
    rw [if_neg (by decide), if_neg (by omega), e1 (), e2 (), if_neg (by omega), if_neg (by decide)]
  | true =>
    obtain ⟨h1, h2⟩ := hs rfl
    obtain ⟨g1, g2, g3⟩ := part_ok h h1 h2 (a := a) (b := a + 1 + b) (by omega) (by omega)
    have hsn := snakeR_ev (n : Int) ((l.take (a + 1 + b)).drop a)
    unfold snakeR at hsn
    rw [if_pos (fine_listed g1), g2, g3] at hsn
    refine Ev.step (f := fun k => (flash_Snake.f k (n : Int) ((l.take (a + 1 + b)).drop a)).bind fun bt182 => (if bt182.2.2 = 0 then (if bt182.1 = true then (neonwrightlaw04_FlashParts.j1 k (n : Int) l c (a : Int)) else (some false)) else (some false))) (fun k => ?_) (Ev.bnd hsn (Ev.pos rfl (Ev.pos rfl hj)))
    simp only [neonwrightlaw04_FlashParts.j0]
    rw [if_neg (by decide), if_neg (by omega), e1 (), e2 (), if_neg (by omega), if_pos (by trivial), if_pos (by omega), e4 (), e3 (), e5 (), if_pos (by omega), if_pos (by omega), Int.toNat_natCast, Int.toNat_natCast]
theorem FlashParts : neonwrightlaw04_FlashParts.Pure := by
  intro n l u v _ _ _ _ hu hv
  have hu := castu16 hu
  have hv := castu16 hv
  obtain ⟨u, rfl⟩ : ∃ m : Nat, u = m := ⟨u.toNat, by omega⟩
  obtain ⟨v, rfl⟩ : ∃ m : Nat, v = m := ⟨v.toNat, by omega⟩
  refine Ev.rounds (g := fun k => neonwrightlaw04_FlashParts.f k n l (u : Int) (v : Int)) ?_
  have hal : Ev (fun k => (neonwrightlaw04_alive.f k).bind fun t313 => (some t313)) true := Ev.bnd alive_ev (Ev.now true)
  by_cases h : (l.length : Int) ≤ 600
  · refine Ev.congr (f := fun k => (flash_Snake.f k n l).bind fun bt177 => (if bt177.2.2 = 0 then (if bt177.1 = true then (neonwrightlaw04_FlashParts.j0 k n l (u : Int) (v : Int) bt177.1 bt177.2.1 bt177.2.1) else (neonwrightlaw04_FlashParts.j0 k n l (u : Int) (v : Int) bt177.1 bt177.2.1 false)) else (if bt177.1 = true then (some false) else (if bt177.2.1 = true then (some false) else ((neonwrightlaw04_alive.f k).bind fun t180 => (some t180)))))) (fun k => ?_) (Ev.bnd (snakeR_ev n l) ?_)
    · show neonwrightlaw04_FlashParts.f k n l _ _ = _
      unfold neonwrightlaw04_FlashParts.f neonwrightlaw04_few.f
      rw [decide_eq_true h, Option.bind_some, if_pos rfl]
    · unfold snakeR
      by_cases hz : listedN n l = 0
      · obtain ⟨m, rfl, hf⟩ := listedN_fine hz
        rw [if_pos hz]
        have hj := fp_j0 hf u v (by omega) (by omega) (pathB l && snakeB l false) (pathB l && closedB l && snakeB l true) (by simp) (by simp; intro a b c; exact ⟨a, b, c⟩)
        refine Ev.pos rfl ?_
        cases hs : (pathB l && snakeB l false) with
        | false =>
          rw [hs] at hj
          exact Ev.neg (by simp) hj
        | true =>
          rw [hs] at hj
          have hcf : (pathB l && closedB l && snakeB l true) = false := by
            rw [Bool.eq_false_iff]
            intro hc
            rw [Bool.and_eq_true, Bool.and_eq_true] at hc
            rw [Bool.and_eq_true, snake_iff] at hs
            obtain ⟨h4, hn⟩ := closed_nx hc.1.2
            rw [hs.2 0 (l.length - 1) (by omega) (by omega)] at hn
            cases hn
          refine Ev.pos rfl ?_
          rw [hcf] at hj ⊢
          exact hj
      · rw [if_neg hz]
        exact Ev.neg hz (Ev.neg (by simp) (Ev.neg (by simp) hal))
  · refine Ev.congr (f := fun k => (neonwrightlaw04_alive.f k).bind fun t474 => (some t474)) (fun k => ?_) hal
    show neonwrightlaw04_FlashParts.f k n l _ _ = _
    unfold neonwrightlaw04_FlashParts.f neonwrightlaw04_few.f
    rw [decide_eq_false h, Option.bind_some, if_neg (by decide)]
end Go.Proofs.Ytnakkdaeehglnaa.Pure
