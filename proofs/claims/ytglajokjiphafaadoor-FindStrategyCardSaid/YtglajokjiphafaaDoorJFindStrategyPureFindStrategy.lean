/- A strategy that Finds takes is no shorter than Fewest. -/
import Derived.Test.YtglajokjiphafaaDoorJFindStrategy1
set_option linter.unusedSimpArgs false
set_option linter.unusedVariables false
namespace Go.Proofs.YtglajokjiphafaaDoor.Pure
open Go.RowKit Go.Proofs.YtglajokjiphafaaDoor.P Go.Proofs.YtglajokjiphafaaDoorW.PrintWords Go.Proofs.YtglajokjiphafaaDoorW.PrintLast Go.Proofs.YtglajokjiphafaaDoorW.PrintMore Go.Proofs.YtglajokjiphafaaDoor.Kit

theorem readP_mono (n : Nat) : ∀ (q : Nat) (L : List Nat) (l1 l2 : Int) (p : List Int), l1 ≤ l2 → (readP n q L l1 p).2 = true → readP n q L l2 p = readP n q L l1 p := by
  intro q
  induction q with
  | zero =>
    intro L l1 l2 p h h2
    by_cases hL : L.length ≤ 1
    · have e : ∀ l : Int, readP n 0 L l p = (p, decide (0 ≤ l)) := fun l => by unfold readP; rw [if_pos hL]
      rw [e] at h2
      have := of_decide_eq_true h2
      rw [e, e, decide_eq_true (show 0 ≤ l1 by omega), decide_eq_true (show 0 ≤ l2 by omega)]
    · have e : ∀ l : Int, readP n 0 L l p = (p, false) := fun l => by unfold readP; rw [if_neg hL]
      rw [e, e]
  | succ q ih =>
    intro L l1 l2 p h h2
    by_cases hL : L.length ≤ 1
    · have e : ∀ l : Int, readP n (q + 1) L l p = (p, decide (0 ≤ l)) := fun l => by unfold readP; rw [if_pos hL]
      rw [e] at h2
      have := of_decide_eq_true h2
      rw [e, e, decide_eq_true (show 0 ≤ l1 by omega), decide_eq_true (show 0 ≤ l2 by omega)]
    · by_cases hb : p = [] ∨ l1 ≤ 0 ∨ rd p 0 < 1 ∨ ((2 ^ n : Nat) : Int) ≤ rd p 0
      · have e : readP n (q + 1) L l1 p = (p, false) := by unfold readP; rw [if_neg hL, if_pos hb]
        rw [e] at h2; exact absurd h2 (by simp)
      · have hb2 : ¬ (p = [] ∨ l2 ≤ 0 ∨ rd p 0 < 1 ∨ ((2 ^ n : Nat) : Int) ≤ rd p 0) := by
          intro h3
          refine hb ?_
          rcases h3 with h3 | h3 | h3
          · exact .inl h3
          · exact .inr (.inl (by omega))
          · exact .inr (.inr h3)
        have e : ∀ l : Int, ¬ (p = [] ∨ l ≤ 0 ∨ rd p 0 < 1 ∨ ((2 ^ n : Nat) : Int) ≤ rd p 0) → readP n (q + 1) L l p = (if (readP n q (cutA (rd p 0).toNat L) (l - 1) (p.drop 1)).2 = true then
          readP n q (cutB (rd p 0).toNat L) (l - 1) (readP n q (cutA (rd p 0).toNat L) (l - 1) (p.drop 1)).1
          else ((readP n q (cutA (rd p 0).toNat L) (l - 1) (p.drop 1)).1, false)) := fun l hl => by
            conv => lhs; unfold readP
            rw [if_neg hL, if_neg hl]
        rw [e l1 hb] at h2 ⊢
        rw [e l2 hb2]
        by_cases h1 : (readP n q (cutA (rd p 0).toNat L) (l1 - 1) (p.drop 1)).2 = true
        · rw [if_pos h1] at h2
          have e1 := ih (cutA (rd p 0).toNat L) (l1 - 1) (l2 - 1) (p.drop 1) (by omega) h1
          rw [e1, if_pos h1, if_pos h1]
          exact ih _ _ _ _ (by omega) h2
        · rw [if_neg h1] at h2; exact absurd h2 (by simp)
theorem readP_can (n : Nat) : ∀ (q : Nat) (L : List Nat) (k : Nat) (p : List Int), (readP n q L (k : Int) p).2 = true → canL n k L = true := by
  intro q
  induction q with
  | zero =>
    intro L k p h
    by_cases hL : L.length ≤ 1
    · exact canL_le1 n k L hL
    · have e : readP n 0 L (k : Int) p = (p, false) := by unfold readP; rw [if_neg hL]
      rw [e] at h; exact absurd h (by simp)
  | succ q ih =>
    intro L k p h
    by_cases hL : L.length ≤ 1
    · exact canL_le1 n k L hL
    · by_cases hb : p = [] ∨ (k : Int) ≤ 0 ∨ rd p 0 < 1 ∨ ((2 ^ n : Nat) : Int) ≤ rd p 0
      · have e : readP n (q + 1) L (k : Int) p = (p, false) := by unfold readP; rw [if_neg hL, if_pos hb]
        rw [e] at h; exact absurd h (by simp)
      · have e : readP n (q + 1) L (k : Int) p = (if (readP n q (cutA (rd p 0).toNat L) ((k : Int) - 1) (p.drop 1)).2 = true then
          readP n q (cutB (rd p 0).toNat L) ((k : Int) - 1) (readP n q (cutA (rd p 0).toNat L) ((k : Int) - 1) (p.drop 1)).1
          else ((readP n q (cutA (rd p 0).toNat L) ((k : Int) - 1) (p.drop 1)).1, false)) := by
            conv => lhs; unfold readP
            rw [if_neg hL, if_neg hb]
        rw [e] at h
        by_cases h1 : (readP n q (cutA (rd p 0).toNat L) ((k : Int) - 1) (p.drop 1)).2 = true
        · rw [if_pos h1] at h
          have hk : ¬ (k : Int) ≤ 0 := fun h => hb (.inr (.inl h))
          have hr1 : ¬ rd p 0 < 1 := fun h => hb (.inr (.inr (.inl h)))
          have hr2 : ¬ ((2 ^ n : Nat) : Int) ≤ rd p 0 := fun h => hb (.inr (.inr (.inr h)))
          obtain ⟨j, rfl⟩ : ∃ j, k = j + 1 := ⟨k - 1, by omega⟩
          have hj : ((j + 1 : Nat) : Int) - 1 = (j : Int) := by omega
          rw [hj] at h1 h
          generalize ht : (rd p 0).toNat = t at *
          have a1 := ih _ _ _ h1
          have a2 := ih _ _ _ h
          have hlA : (cutA t L).length ≤ 2 ^ j := Nat.le_of_not_lt fun hc => by rw [canL_many n j _ hc] at a1; exact absurd a1 (by simp)
          have hlB : (cutB t L).length ≤ 2 ^ j := Nat.le_of_not_lt fun hc => by rw [canL_many n j _ hc] at a2; exact absurd a2 (by simp)
          have hcl := cut_length t L
          by_cases hA : cutA t L = []
          · have hBL : cutB t L = L := by
              rw [hA] at hcl
              unfold cutB at hcl ⊢
              rw [List.filter_eq_self]
              exact List.length_filter_eq_length_iff.1 (by simpa using hcl)
            rw [hBL] at a2
            exact canL_mono n (by omega) a2
          · by_cases hB : cutB t L = []
            · have hAL : cutA t L = L := by
                rw [hB] at hcl
                unfold cutA at hcl ⊢
                rw [List.filter_eq_self]
                exact List.length_filter_eq_length_iff.1 (by simpa using hcl)
              rw [hAL] at a1
              exact canL_mono n (by omega) a1
            · unfold canL
              rw [Bool.or_eq_true, Bool.and_eq_true, decide_eq_true_eq, decide_eq_true_eq]
              refine .inr ⟨by rw [Nat.pow_succ]; omega, ?_⟩
              rw [List.any_eq_true]
              refine ⟨t, List.mem_range'_1.2 ⟨by omega, by omega⟩, ?_⟩
              rw [a1, a2, List.isEmpty_eq_false_iff.2 hA, List.isEmpty_eq_false_iff.2 hB]
              rfl
        · rw [if_neg h1] at h; exact absurd h (by simp)
theorem FindStrategy (n d limit : Int) (s : List Int) (w0 : (Lit.int .i64 n).wf = true) (w1 : (Lit.int .i64 d).wf = true) (w2 : (Lit.int .i64 limit).wf = true) : ∃ k, neonwrightlaw05_FindStrategy.f k n d limit s = some true := by
  refine Ev.rounds ?_
  have hlim : IntKind.i64.min ≤ limit ∧ limit ≤ 9223372036854775807 := by
    have h : (decide (IntKind.i64.min ≤ limit) && decide (limit ≤ IntKind.i64.max)) = true := w2
    rw [Bool.and_eq_true, decide_eq_true_eq, decide_eq_true_eq] at h
    exact h
  have hmin : (-9223372036854775808 : Int) ≤ limit := hlim.1
  have out : ∀ b : Bool, b = true → Ev (fun k => neonwrightlaw05_FindStrategy.j0 k n d limit s b) true := by
    intro b hb
    subst hb
    refine Ev.step (f := fun k => (neonwrightlaw05_alive.f k).bind fun t => some t) (fun k => ?_) (Ev.bnd alive_ev (Ev.now true))
    simp only [neonwrightlaw05_FindStrategy.j0]
    rfl
  by_cases hl : (s.length : Int) > 200
  · refine Ev.congr (f := fun k => neonwrightlaw05_FindStrategy.j0 k n d limit s true) (fun k => by unfold neonwrightlaw05_FindStrategy.f; rw [if_pos hl]) (out true rfl)
  · refine Ev.congr (f := fun k => neonwrightlaw05_FindStrategy.j0 k n d limit s (decide (limit > 1099511627776))) (fun k => by unfold neonwrightlaw05_FindStrategy.f; rw [if_neg hl]) ?_
    by_cases hbig : limit > 1099511627776
    · exact out _ (decide_eq_true hbig)
    · rw [decide_eq_false hbig]
      have hw : wrap64 (limit + 1) = limit + 1 := w64 (by omega) (by omega)
      have hF : ∀ x : Int, x ≤ 9223372036854775807 → find_Finds.f n d x s = some (findsP n d x s) := fun x hx => by unfold find_Finds.f; rw [if_pos ⟨by omega, hx⟩]
      have hE : ∀ k, neonwrightlaw05_FindStrategy.j0 (k + 1) n d limit s false = (if (findsP n d limit s).2 = 0 then (if (findsP n d (limit + 1) s).2 = 0 then (if (fewestP n d).2 = 0 then (if (findsP n d limit s).1 = true then (if (findsP n d (limit + 1) s).1 = true then (if limit ≥ (fewestP n d).1 then ((neonwrightlaw05_alive.f k).bind fun t333 => (some t333)) else (some false)) else (some false)) else ((neonwrightlaw05_alive.f k).bind fun t334 => (some t334))) else (some false)) else (some false)) else (if (findsP n d (limit + 1) s).2 = (findsP n d limit s).2 then (if (fewestP n d).2 = (findsP n d limit s).2 then (if (findsP n d limit s).1 = true then (some false) else (if (findsP n d (limit + 1) s).1 = true then (some false) else ((neonwrightlaw05_alive.f k).bind fun t335 => (some t335)))) else (some false)) else (some false))) := by
        intro k
        simp only [neonwrightlaw05_FindStrategy.j0]
        rw [if_neg (by decide), hw, hF limit (by omega), hF (limit + 1) (by omega), Option.bind_some, Option.bind_some]
        unfold find_Fewest.f
        rw [Option.bind_some]
      refine Ev.step hE ?_
      cases hg : gameOk n d with
      | false =>
        have e1 : ∀ x, findsP n d x s = (false, 2) := fun x => by unfold findsP; rw [hg]; rfl
        have e2 : fewestP n d = (0, 2) := by unfold fewestP; rw [hg]; rfl
        rw [e1, e1, e2]
        exact Ev.neg (by decide) (Ev.pos rfl (Ev.pos rfl (Ev.neg (by decide) (Ev.neg (by decide) (Ev.bnd alive_ev (Ev.now true))))))
      | true =>
        obtain ⟨n', d', rfl, rfl, h1, h5, hd⟩ := gameOk_iff hg
        have e1 : ∀ x, findsP (n' : Int) (d' : Int) x s = (decide (0 ≤ x) && ((readP n' s.length (setsL n' d') (if (s.length : Int) + 1 < x then (s.length : Int) + 1 else x) s).2 && decide ((readP n' s.length (setsL n' d') (if (s.length : Int) + 1 < x then (s.length : Int) + 1 else x) s).1.length = 0)), 0) := fun x => by
          unfold findsP; rw [hg, if_pos rfl, Int.toNat_natCast, Int.toNat_natCast]
        have e2 : fewestP (n' : Int) (d' : Int) = ((fewL n' 6 (setsL n' d') : Int), 0) := by unfold fewestP; rw [hg, if_pos rfl, Int.toNat_natCast, Int.toNat_natCast]
        rw [e2, e1, e1]
        refine Ev.pos rfl (Ev.pos rfl (Ev.pos rfl ?_))
        simp only
        by_cases hok : (decide (0 ≤ limit) && ((readP n' s.length (setsL n' d') (if (s.length : Int) + 1 < limit then (s.length : Int) + 1 else limit) s).2 && decide ((readP n' s.length (setsL n' d') (if (s.length : Int) + 1 < limit then (s.length : Int) + 1 else limit) s).1.length = 0))) = true
        · rw [Bool.and_eq_true, Bool.and_eq_true, decide_eq_true_eq] at hok
          obtain ⟨h0, hr, hz⟩ := hok
          have hle : (if (s.length : Int) + 1 < limit then (s.length : Int) + 1 else limit) ≤ (if (s.length : Int) + 1 < limit + 1 then (s.length : Int) + 1 else limit + 1) := by split <;> split <;> omega
          have hll : 0 ≤ (if (s.length : Int) + 1 < limit then (s.length : Int) + 1 else limit) ∧ (if (s.length : Int) + 1 < limit then (s.length : Int) + 1 else limit) ≤ limit := by split <;> omega
          have hm := readP_mono n' s.length (setsL n' d') _ _ s hle hr
          rw [hm, hr, hz, decide_eq_true h0, decide_eq_true (show 0 ≤ limit + 1 by omega)]
          refine Ev.pos rfl (Ev.pos rfl (Ev.pos ?_ (Ev.bnd alive_ev (Ev.now true))))
          obtain ⟨m, hm2⟩ := Int.eq_ofNat_of_zero_le hll.1
          rw [hm2] at hr hll
          have hc := readP_can n' _ _ m s hr
          have hc6 := can6 n' h5 h1 d' hd
          have hsp := (fewL_spec n' 6 _ hc6).2.2
          have : fewL n' 6 (setsL n' d') ≤ m := Nat.le_of_not_lt fun hlt => by rw [hsp m hlt] at hc; exact absurd hc (by simp)
          show (fewL n' 6 (setsL n' d') : Int) ≤ limit
          omega
        · exact Ev.neg hok (Ev.bnd alive_ev (Ev.now true))
end Go.Proofs.YtglajokjiphafaaDoor.Pure
