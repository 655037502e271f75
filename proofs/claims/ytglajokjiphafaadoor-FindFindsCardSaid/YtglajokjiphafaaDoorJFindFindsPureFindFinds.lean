/- Finds judges strategies as the specification does. -/
import Derived.Test.YtglajokjiphafaaDoorJFindFinds1
set_option linter.unusedSimpArgs false
set_option linter.unusedVariables false
namespace Go.Proofs.YtglajokjiphafaaDoor.Pure
open Go.RowKit Go.Proofs.YtglajokjiphafaaDoor.P Go.Proofs.YtglajokjiphafaaDoorW.PrintWords Go.Proofs.YtglajokjiphafaaDoorW.PrintLast Go.Proofs.YtglajokjiphafaaDoorW.PrintMore Go.Proofs.YtglajokjiphafaaDoor.Kit

theorem few_tells' : ∀ n : Nat, n ≤ 5 → 1 ≤ n → ∀ d : Nat, d ≤ n → decide (neonwrightref05_Few.f 300 (n : Int) (d : Int) = some (((setsL n d).map fun (s : Nat) => (s : Int)), true)) = true := by decide +kernel
theorem few_tells (n : Nat) (h : n ≤ 5) (h1 : 1 ≤ n) (d : Nat) (hd : d ≤ n) : neonwrightref05_Few.f 300 (n : Int) (d : Int) = some (((setsL n d).map fun (s : Nat) => (s : Int)), true) := of_decide_eq_true (few_tells' n h h1 d hd)
theorem readP_big (n : Nat) : ∀ (q : Nat) (L : List Nat) (l1 l2 : Int) (p : List Int), (p.length : Int) ≤ l1 → (p.length : Int) ≤ l2 → readP n q L l1 p = readP n q L l2 p := by
  intro q
  induction q with
  | zero =>
    intro L l1 l2 p h1 h2
    unfold readP
    rw [decide_eq_true (show 0 ≤ l1 by omega), decide_eq_true (show 0 ≤ l2 by omega)]
  | succ q ih =>
    intro L l1 l2 p h1 h2
    unfold readP
    by_cases hL : L.length ≤ 1
    · rw [if_pos hL, if_pos hL, decide_eq_true (show 0 ≤ l1 by omega), decide_eq_true (show 0 ≤ l2 by omega)]
    · rw [if_neg hL, if_neg hL]
      by_cases hp : p = []
      · rw [if_pos (.inl hp), if_pos (.inl hp)]
      · have hpos := List.length_pos_iff.2 hp
        have hd : (p.drop 1).length = p.length - 1 := List.length_drop
        have e1 := ih (cutA (rd p 0).toNat L) (l1 - 1) (l2 - 1) (p.drop 1) (by omega) (by omega)
        have hl := readP_length n q (cutA (rd p 0).toNat L) (l2 - 1) (p.drop 1)
        have e2 := ih (cutB (rd p 0).toNat L) (l1 - 1) (l2 - 1) (readP n q (cutA (rd p 0).toNat L) (l2 - 1) (p.drop 1)).1 (by omega) (by omega)
        rw [e1, e2]
        by_cases hx : rd p 0 < 1 ∨ ((2 ^ n : Nat) : Int) ≤ rd p 0
        · rw [if_pos (.inr (.inr hx)), if_pos (.inr (.inr hx))]
        · have n1 : ¬ (p = [] ∨ l1 ≤ 0 ∨ rd p 0 < 1 ∨ ((2 ^ n : Nat) : Int) ≤ rd p 0) := by
            rintro (h | h | h)
            · exact hp h
            · omega
            · exact hx h
          have n2 : ¬ (p = [] ∨ l2 ≤ 0 ∨ rd p 0 < 1 ∨ ((2 ^ n : Nat) : Int) ≤ rd p 0) := by
            rintro (h | h | h)
            · exact hp h
            · omega
            · exact hx h
          rw [if_neg n1, if_neg n2]
theorem split_l0 (L : List Nat) (t : Nat) (hL : ∀ x ∈ L, x < 64) (hl : L.length ≤ 1000) (ht : t < 9223372036854775808) : ∀ m i, L.length - i = m → i ≤ L.length →
    Ev (fun k => neonwrightref05_split.l0 k (L.map fun (s : Nat) => (s : Int)) (t : Int) ((cutA t (L.take i)).map fun (s : Nat) => (s : Int)) ((cutB t (L.take i)).map fun (s : Nat) => (s : Int)) (i : Int)) ((cutA t L).map fun (s : Nat) => (s : Int), (cutB t L).map fun (s : Nat) => (s : Int)) := by
  intro m
  induction m with
  | zero =>
    intro i hm hi
    have hie : i = L.length := by omega
    subst hie
    rw [List.take_length]
    refine Ev.step (fun k => ?_) (Ev.now _)
    simp only [neonwrightref05_split.l0]
    rw [if_neg (by rw [List.length_map]; omega)]
  | succ m ih =>
    intro i hm hi
    have hlt : i < L.length := by omega
    have hx := hL L[i] (List.getElem_mem hlt)
    have hrd : rd (L.map fun (s : Nat) => (s : Int)) (i : Int) = (L[i] : Int) := by rw [rd_get _ i (by rw [List.length_map]; exact hlt)]; simp
    have ha : Go.bits .and .i64 (L[i] : Int) (t : Int) = ((L[i] &&& t : Nat) : Int) := and64 _ _ (by omega) ht
    have h1 := ih (i + 1) (by omega) (by omega)
    have htk := List.take_succ_eq_append_getElem hlt
    have hcA : (cutA t (L.take i)).length ≤ i := Nat.le_trans (List.length_filter_le _ _) (List.length_take_le _ _)
    have hcB : (cutB t (L.take i)).length ≤ i := Nat.le_trans (List.length_filter_le _ _) (List.length_take_le _ _)
    by_cases e : L[i] &&& t = 0
    · have eA : cutA t (L.take (i + 1)) = cutA t (L.take i) := by rw [htk]; unfold cutA; rw [List.filter_append]; simp [e]
      have eB : cutB t (L.take (i + 1)) = cutB t (L.take i) ++ [L[i]] := by rw [htk]; unfold cutB; rw [List.filter_append]; simp [e]
      rw [eA, eB, List.map_append] at h1
      refine Ev.step (fun k => ?_) h1
      simp only [neonwrightref05_split.l0]
      rw [if_pos (by rw [List.length_map]; omega), if_pos (by omega), hrd, ha, if_pos (by omega), if_pos (by rw [List.length_map]; omega), wrap1 (by omega)]
      rfl
    · have eA : cutA t (L.take (i + 1)) = cutA t (L.take i) ++ [L[i]] := by rw [htk]; unfold cutA; rw [List.filter_append]; simp [e]
      have eB : cutB t (L.take (i + 1)) = cutB t (L.take i) := by rw [htk]; unfold cutB; rw [List.filter_append]; simp [e]
      rw [eA, eB, List.map_append] at h1
      refine Ev.step (fun k => ?_) h1
      simp only [neonwrightref05_split.l0]
      rw [if_pos (by rw [List.length_map]; omega), if_pos (by omega), hrd, ha, if_neg (by omega), if_pos (by rw [List.length_map]; omega), wrap1 (by omega)]
      rfl
theorem split_ev (L : List Nat) (t : Nat) (hL : ∀ x ∈ L, x < 64) (hl : L.length ≤ 1000) (ht : t < 9223372036854775808) :
    Ev (fun k => neonwrightref05_split.f k (L.map fun (s : Nat) => (s : Int)) (t : Int)) ((cutA t L).map fun (s : Nat) => (s : Int), (cutB t L).map fun (s : Nat) => (s : Int)) := by
  have := split_l0 L t hL hl ht L.length 0 (by omega) (by omega)
  exact this
/-- A strategy that is read leaves an end of it. -/
theorem readP_end (n : Nat) : ∀ q L left p, ∃ j, (readP n q L left p).1 = p.drop j ∧ j ≤ p.length := by
  intro q
  induction q with
  | zero => intro L left p; unfold readP; split <;> exact ⟨0, by simp, Nat.zero_le _⟩
  | succ q ih =>
    intro L left p
    unfold readP
    split
    · exact ⟨0, by simp, Nat.zero_le _⟩
    · split
      · exact ⟨0, by simp, Nat.zero_le _⟩
      · obtain ⟨j, hj, hjl⟩ := ih (cutA (rd p 0).toNat L) (left - 1) (p.drop 1)
        split
        · obtain ⟨i, hi, hil⟩ := ih (cutB (rd p 0).toNat L) (left - 1) (readP n q (cutA (rd p 0).toNat L) (left - 1) (p.drop 1)).1
          rw [hi, hj, List.drop_drop, List.drop_drop]
          rw [hj, List.length_drop, List.length_drop] at hil
          rw [List.length_drop] at hjl
          by_cases hp : p = []
          · rename_i hb _; exact absurd (.inl hp) hb
          · have := List.length_pos_iff.2 hp
            exact ⟨_, rfl, by omega⟩
        · rw [List.length_drop] at hjl
          by_cases hp : p = []
          · rename_i hb _; exact absurd (.inl hp) hb
          · have := List.length_pos_iff.2 hp
            refine ⟨1 + j, ?_, by omega⟩
            show (readP n q _ _ _).1 = _
            rw [hj, List.drop_drop]
theorem readP_drop (n q : Nat) (L : List Nat) (left : Int) (s : List Int) (i : Nat) (hi : i ≤ s.length) :
    (readP n q L left (s.drop i)).1 = s.drop (s.length - (readP n q L left (s.drop i)).1.length) ∧ (readP n q L left (s.drop i)).1.length ≤ s.length := by
  obtain ⟨j, hj, hjl⟩ := readP_end n q L left (s.drop i)
  rw [hj, List.drop_drop]
  rw [List.length_drop] at hjl
  have hl : (s.drop (i + j)).length = s.length - (i + j) := List.length_drop
  rw [hl]
  exact ⟨by congr 1; omega, by omega⟩
def endOf (s : List Int) (r : List Int × Bool) : Int := if r.2 = true then (s.length : Int) - (r.1.length : Int) else -1
theorem finds_ev (n : Nat) (hn : n ≤ 5) (s : List Int) (hs : s.length ≤ 200) : ∀ (q : Nat) (L : List Nat) (lim : Int) (i : Nat), (∀ x ∈ L, x < 64) → L.length ≤ 1000 → s.length - i ≤ q → i ≤ s.length → 0 ≤ lim → lim ≤ 1000 →
    Ev (fun k => neonwrightref05_finds.f k (n : Int) (L.map fun (x : Nat) => (x : Int)) lim s (i : Int)) (endOf s (readP n q L lim (s.drop i))) := by
  have hp5 := pow5 hn
  have hsh := shl1n (n := n) (by omega)
  intro q
  induction q with
  | zero =>
    intro L lim i hL hl hq hi h0 h1
    unfold readP endOf
    have hie : i = s.length := by omega
    by_cases hc : L.length ≤ 1
    · rw [if_pos hc]
      refine Ev.step (fun k => ?_) (Ev.ret (a := (i : Int)) ?_)
      · simp only [neonwrightref05_finds.f]
        rw [if_pos (by rw [List.length_map]; omega)]
      · simp [h0]; omega
    · rw [if_neg hc]
      refine Ev.step (f := fun k => neonwrightref05_finds.j0 k (n : Int) (L.map fun (x : Nat) => (x : Int)) lim s (i : Int) true) (fun k => ?_) (Ev.step (fun k => ?_) (Ev.ret (a := (-1 : Int)) ?_))
      · simp only [neonwrightref05_finds.f]
        rw [if_neg (by rw [List.length_map]; omega), if_pos (show (i : Int) ≥ (s.length : Int) by omega)]
        simp
      · simp only [neonwrightref05_finds.j0]; rfl
      · rfl
  | succ q ih =>
    intro L lim i hL hl hq hi h0 h1
    by_cases hc : L.length ≤ 1
    · unfold readP endOf
      rw [if_pos hc]
      refine Ev.step (fun k => ?_) (Ev.ret (a := (i : Int)) ?_)
      · simp only [neonwrightref05_finds.f]
        rw [if_pos (by rw [List.length_map]; omega)]
      · simp [h0]; omega
    · by_cases hbad : s.drop i = [] ∨ lim ≤ 0 ∨ rd (s.drop i) 0 < 1 ∨ ((2 ^ n : Nat) : Int) ≤ rd (s.drop i) 0
      · have hv : endOf s (readP n (q + 1) L lim (s.drop i)) = -1 := by unfold readP endOf; rw [if_neg hc, if_pos hbad]; rfl
        rw [hv]
        refine Ev.step (f := fun k => neonwrightref05_finds.j0 k (n : Int) (L.map fun (x : Nat) => (x : Int)) lim s (i : Int) true) (fun k => ?_) (Ev.step (fun k => ?_) (Ev.now (-1 : Int)))
        · simp only [neonwrightref05_finds.f]
          rw [if_neg (by rw [List.length_map]; omega)]
          by_cases hz : lim = 0
          · rw [if_pos hz]
          · rw [if_neg hz]
            by_cases hi2 : (i : Int) ≥ (s.length : Int)
            · rw [if_pos hi2]
            · have hlt : i < s.length := by omega
              have hrd : rd (s.drop i) 0 = rd s (i : Int) := by
                rw [rd_get s i hlt, List.drop_eq_getElem_cons hlt]; rfl
              rw [if_neg hi2, if_pos (by omega), if_pos (by omega)]
              rw [hrd] at hbad
              by_cases hr1 : rd s (i : Int) < 1
              · rw [if_pos hr1]
              · rw [if_neg hr1, if_pos (by omega), hsh, decide_eq_true]
                rcases hbad with h | h | h | h
                · rw [List.drop_eq_nil_iff] at h; omega
                · omega
                · omega
                · exact h
        · simp only [neonwrightref05_finds.j0]; rfl
      · have hlt : i < s.length := by
          refine Nat.lt_of_not_le fun h => hbad (.inl (List.drop_eq_nil_iff.2 h))
        have hlim : ¬ lim ≤ 0 := fun h => hbad (.inr (.inl h))
        have hr1 : ¬ rd (s.drop i) 0 < 1 := fun h => hbad (.inr (.inr (.inl h)))
        have hr2 : ¬ ((2 ^ n : Nat) : Int) ≤ rd (s.drop i) 0 := fun h => hbad (.inr (.inr (.inr h)))
        have hrd : rd (s.drop i) 0 = rd s (i : Int) := by
          rw [rd_get s i hlt, List.drop_eq_getElem_cons hlt]; rfl
        obtain ⟨t, ht⟩ := Int.eq_ofNat_of_zero_le (show 0 ≤ rd s (i : Int) by omega)
        have hdd : (s.drop i).drop 1 = s.drop (i + 1) := by rw [List.drop_drop]
        have hRe : readP n (q + 1) L lim (s.drop i) = (if (readP n q (cutA t L) (lim - 1) (s.drop (i + 1))).2 = true then readP n q (cutB t L) (lim - 1) (readP n q (cutA t L) (lim - 1) (s.drop (i + 1))).1 else ((readP n q (cutA t L) (lim - 1) (s.drop (i + 1))).1, false)) := by
          conv => lhs; unfold readP
          rw [if_neg hc, if_neg hbad, hrd, ht, Int.toNat_natCast, hdd]
        rw [hrd, ht] at hr1 hr2
        have hwl : ∀ _ : Unit, wrap64 (lim - 1) = lim - 1 := fun _ => w64 (by omega) (by omega)
        have hLA : ∀ x ∈ cutA t L, x < 64 := fun x hx => hL x ((List.mem_filter.1 hx).1)
        have hLB : ∀ x ∈ cutB t L, x < 64 := fun x hx => hL x ((List.mem_filter.1 hx).1)
        have hlA : (cutA t L).length ≤ 1000 := Nat.le_trans (List.length_filter_le _ _) hl
        have hlB : (cutB t L).length ≤ 1000 := Nat.le_trans (List.length_filter_le _ _) hl
        have h2 := ih (cutA t L) (lim - 1) (i + 1) hLA hlA (by omega) (by omega) (by omega) (by omega)
        have hdr := readP_drop n q (cutA t L) (lim - 1) s (i + 1) (by omega)
        have hln := readP_length n q (cutA t L) (lim - 1) (s.drop (i + 1))
        rw [List.length_drop] at hln
        have hsp := split_ev L t hL hl (by omega)
        rw [hRe]
        refine Ev.step (f := fun k => neonwrightref05_finds.j0 k (n : Int) (L.map fun (x : Nat) => (x : Int)) lim s (i : Int) false) (fun k => ?_) (Ev.step (f := fun k => (neonwrightref05_split.f k (L.map fun (x : Nat) => (x : Int)) (t : Int)).bind fun bt283 => ((neonwrightref05_finds.f k (n : Int) bt283.1 (lim - 1) s ((i + 1 : Nat) : Int)).bind fun t289 => (if t289 < 0 then (some (-1)) else ((neonwrightref05_finds.f k (n : Int) bt283.2 (lim - 1) s t289).bind fun t290 => (some t290))))) (fun k => ?_) ?_)
        · simp only [neonwrightref05_finds.f]
          rw [if_neg (by rw [List.length_map]; omega), if_neg (by omega), if_neg (by omega), if_pos (by omega), if_pos (by omega), ht, if_neg hr1, if_pos (by omega), hsh, decide_eq_false hr2]
        · simp only [neonwrightref05_finds.j0]
          rw [if_neg (by decide), if_pos (by omega), if_pos (by omega), ht, hwl (), wrap1 (by omega)]
        · refine Ev.bnd hsp (Ev.bnd h2 ?_)
          generalize readP n q (cutA t L) (lim - 1) (s.drop (i + 1)) = rp at *
          obtain ⟨p2, ok⟩ := rp
          cases ok with
          | false => exact Ev.pos (show (-1 : Int) < 0 by decide) (Ev.now _)
          | true =>
            have he : endOf s (p2, true) = ((s.length - p2.length : Nat) : Int) := by
              show (s.length : Int) - (p2.length : Int) = _
              have := hdr.2
              simp only at this
              omega
            have h3 := ih (cutB t L) (lim - 1) (s.length - p2.length) hLB hlB (by simp only at hln; omega) (by omega) (by omega) (by omega)
            rw [← hdr.1] at h3
            refine Ev.neg (by rw [he]; omega) ?_
            rw [he]
            exact Ev.bnd h3 (Ev.now _)
theorem FindFinds (n d limit : Int) (s : List Int) (w0 : (Lit.int .i64 n).wf = true) (w1 : (Lit.int .i64 d).wf = true) (w2 : (Lit.int .i64 limit).wf = true) : ∃ k, neonwrightlaw05_FindFinds.f k n d limit s = some true := by
  refine Ev.rounds ?_
  by_cases hl : (s.length : Int) > 200
  · refine Ev.congr (f := fun k => (neonwrightlaw05_alive.f k).bind fun t313 => some t313) (fun k => by unfold neonwrightlaw05_FindFinds.f; rw [if_pos hl]) (Ev.bnd alive_ev (Ev.now true))
  · have hlim : limit ≤ 9223372036854775807 := by
      have h : (decide (IntKind.i64.min ≤ limit) && decide (limit ≤ IntKind.i64.max)) = true := w2
      rw [Bool.and_eq_true, decide_eq_true_eq, decide_eq_true_eq] at h
      exact h.2
    have hF : find_Finds.f n d limit s = some (findsP n d limit s) := by unfold find_Finds.f; rw [if_pos ⟨by omega, hlim⟩]
    have hR : Ev (fun k => neonwrightref05_Finds.f k n d limit s) (findsP n d limit s) := by
      cases hg : gameOk n d with
      | false =>
        have : findsP n d limit s = (false, 2) := by unfold findsP; rw [hg]; rfl
        rw [this]
        exact ⟨1, fun k hk => by obtain ⟨k, rfl⟩ : ∃ j, k = j + 1 := ⟨k - 1, by omega⟩; exact rfinds_err n d limit s hg k⟩
      | true =>
        obtain ⟨n', d', rfl, rfl, h1, h5, hd⟩ := gameOk_iff hg
        have hfew : Ev (fun k => neonwrightref05_Few.f k (n' : Int) (d' : Int)) ((setsL n' d').map fun (s : Nat) => (s : Int), true) := Ev.of (fun k => neonwrightref05_Few.mono _ _ k) (few_tells n' h5 h1 d' hd)
        refine Ev.congr (f := fun k => (neonwrightref05_Few.f k (n' : Int) (d' : Int)).bind fun bt291 => (if bt291.2 = true then (if limit < 0 then (some (false, 0)) else ((neonwrightref05_finds.f k (n' : Int) bt291.1 (mn limit 1000) s 0).bind fun t295 => (some ((t295 == (s.length : Int)), 0)))) else (some (false, 2)))) (fun k => rfl) (Ev.bnd hfew ?_)
        refine Ev.pos rfl ?_
        unfold findsP
        rw [hg, if_pos rfl, Int.toNat_natCast, Int.toNat_natCast]
        by_cases hneg : limit < 0
        · refine Ev.pos hneg ?_
          rw [decide_eq_false (by omega), Bool.false_and]
          exact Ev.now _
        · refine Ev.neg hneg ?_
          rw [decide_eq_true (show 0 ≤ limit by omega), Bool.true_and]
          have hmn : mn limit 1000 = if limit < 1000 then limit else 1000 := by unfold mn; split <;> split <;> omega
          have hsl : ∀ x ∈ setsL n' d', x < 64 := fun x hx => by
            have h2 := List.mem_range.1 ((List.mem_filter.1 hx).1)
            have := pow5 h5
            omega
          have h3 := finds_ev n' h5 s (by omega) s.length (setsL n' d') (mn limit 1000) 0 hsl (by have := setsL_length n' d' h5; omega) (by omega) (by omega) (by rw [hmn]; split <;> omega) (by rw [hmn]; split <;> omega)
          rw [List.drop_zero] at h3
          have hbig : readP n' s.length (setsL n' d') (mn limit 1000) s = readP n' s.length (setsL n' d') (if (s.length : Int) + 1 < limit then (s.length : Int) + 1 else limit) s := by
            by_cases hc : limit ≤ (s.length : Int)
            · rw [hmn, if_pos (by omega), if_neg (by omega)]
            · exact readP_big n' _ _ _ _ s (by rw [hmn]; split <;> omega) (by split <;> omega)
          rw [hbig] at h3
          refine Ev.bnd h3 (Ev.ret ?_)
          have hln := readP_length n' s.length (setsL n' d') (if (s.length : Int) + 1 < limit then (s.length : Int) + 1 else limit) s
          generalize readP n' s.length (setsL n' d') (if (s.length : Int) + 1 < limit then (s.length : Int) + 1 else limit) s = rp at *
          obtain ⟨p2, ok⟩ := rp
          congr 1
          cases ok with
          | false => simp [endOf]
          | true =>
            simp only [endOf, if_pos]
            simp only at hln ⊢
            rw [Bool.true_and, Bool.eq_iff_iff, beq_iff_eq, decide_eq_true_eq]
            omega
    refine Ev.congr (f := fun k => (neonwrightref05_Finds.f k n d limit s).bind fun bt322 => (if ((findsP n d limit s).1 == bt322.1) = true then (if (findsP n d limit s).2 = bt322.2 then ((neonwrightlaw05_same.f k s s).bind fun t324 => (if t324 = true then ((neonwrightlaw05_alive.f k).bind fun t325 => (some t325)) else (some false))) else (some false)) else (some false))) (fun k => ?_) ?_
    · unfold neonwrightlaw05_FindFinds.f
      rw [if_neg hl, Option.bind_some, if_pos (by simp; omega), Option.bind_some, List.nil_append, hF, Option.bind_some]
    · refine Ev.bnd hR (Ev.pos (by simp) (Ev.pos rfl (Ev.bnd (same_refl s (by omega)) (Ev.pos rfl (Ev.bnd alive_ev (Ev.now true))))))
end Go.Proofs.YtglajokjiphafaaDoor.Pure
