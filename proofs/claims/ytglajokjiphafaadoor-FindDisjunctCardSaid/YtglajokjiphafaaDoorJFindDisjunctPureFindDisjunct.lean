/- If a design is disjunct, Cleared and Sets find the faulty tubes. -/
import Derived.Test.YtglajokjiphafaaDoorJFindDisjunct2
set_option linter.unusedSimpArgs false
set_option linter.unusedVariables false
namespace Go.Proofs.YtglajokjiphafaaDoor.Pure
open Go.RowKit Go.Proofs.YtglajokjiphafaaDoor.P Go.Proofs.YtglajokjiphafaaDoorW.PrintWords Go.Proofs.YtglajokjiphafaaDoorW.PrintLast Go.Proofs.YtglajokjiphafaaDoorW.PrintMore Go.Proofs.YtglajokjiphafaaDoor.Kit

theorem clL_split (d : List (List Int)) (o : List Bool) (i : Nat) : ∀ e, clL (i + e) d o = clL i d o ++ ((List.range' i e).map fun (t : Nat) => (t : Int)).filter (clB d o)
  | 0 => by simp
  | e + 1 => by
    rw [show i + (e + 1) = (i + e) + 1 by omega, clL_succ, clL_split d o i e, List.range'_concat, List.map_append, List.filter_append]
    cases h : clB d o ((i + e : Nat) : Int) with
    | true => rw [if_pos rfl]; simp only [List.map_cons, List.map_nil, Nat.one_mul]; rw [List.filter_cons_of_pos (by rw [h]), List.append_assoc]; rfl
    | false => rw [if_neg (by decide)]; simp only [List.map_cons, List.map_nil, Nat.one_mul]; rw [List.filter_cons_of_neg (by rw [h]; decide)]; simp
def notL (n : Nat) (d : List (List Int)) (o : List Bool) : List Int := ((List.range n).map fun (t : Nat) => (t : Int)).filter fun t => !clB d o t
theorem notL_succ (t : Nat) (d : List (List Int)) (o : List Bool) : notL (t + 1) d o = if clB d o (t : Int) = true then notL t d o else notL t d o ++ [(t : Int)] := by
  unfold notL
  rw [List.range_succ, List.map_append, List.filter_append]
  cases h : clB d o (t : Int) <;> simp [h]
theorem notL_length (t : Nat) (d : List (List Int)) (o : List Bool) : (notL t d o).length ≤ t := by
  unfold notL
  refine Nat.le_trans (List.length_filter_le _ _) ?_
  simp
theorem without_l0 (n : Nat) (hn : n ≤ 1000) (d : List (List Int)) (o : List Bool) : ∀ m i, n - i = m → i ≤ n →
    Ev (fun k => neonwrightlaw05_without.l0 k (n : Int) (clL n d o) (notL i d o) ((clL i d o).length : Int) (i : Int)) (notL n d o) := by
  intro m
  induction m with
  | zero =>
    intro i hm hi
    have e : i = n := by omega
    subst e
    refine Ev.step (fun k => ?_) (Ev.now (notL i d o))
    simp only [neonwrightlaw05_without.l0]
    rw [if_neg (by omega)]
  | succ m ih =>
    intro i hm hi
    have hlt : i < n := by omega
    have h1 := ih (i + 1) (by omega) (by omega)
    have hsp := clL_split d o i (n - i)
    rw [show i + (n - i) = n by omega, show n - i = (n - (i + 1)) + 1 by omega, List.range'_succ, List.map_cons] at hsp
    have hle := clL_length i d o
    have hnl := notL_length i d o
    cases hb : clB d o (i : Int) with
    | true =>
      rw [List.filter_cons_of_pos (by rw [hb])] at hsp
      rw [notL_succ, hb, if_pos rfl, clL_succ, hb, if_pos rfl, List.length_append] at h1
      have hat : (clL i d o).length < (clL n d o).length := by rw [hsp]; simp
      have hrd : rd (clL n d o) ((clL i d o).length : Int) = (i : Int) := by
        rw [rd_get _ _ hat]
        simp only [hsp]
        rw [List.getElem_append_right (Nat.le_refl _)]
        simp
      refine Ev.step (fun k => ?_) h1
      simp only [neonwrightlaw05_without.l0]
      rw [if_pos (by omega), if_pos (by omega), if_pos (by omega), hrd, if_pos rfl, wrap1 (by omega), wrap1 (by omega)]
      rfl
    | false =>
      rw [List.filter_cons_of_neg (by rw [hb]; decide)] at hsp
      rw [notL_succ, hb, if_neg (by decide), clL_succ, hb, if_neg (by decide)] at h1
      refine Ev.step (fun k => ?_) h1
      simp only [neonwrightlaw05_without.l0]
      rw [if_pos (by omega)]
      by_cases hat : (clL i d o).length < (clL n d o).length
      · have hrd : rd (clL n d o) ((clL i d o).length : Int) ≠ (i : Int) := by
          rw [rd_get _ _ hat]
          have hmem : (clL n d o)[(clL i d o).length] ∈ ((List.range' (i + 1) (n - (i + 1))).map fun (t : Nat) => (t : Int)).filter (clB d o) := by
            simp only [hsp]
            rw [List.getElem_append_right (Nat.le_refl _)]
            exact List.getElem_mem _
          obtain ⟨t, ht, e⟩ := List.mem_map.1 (List.mem_filter.1 hmem).1
          have := (List.mem_range'_1.1 ht).1
          omega
        rw [if_pos (by omega), if_pos (by omega), if_neg hrd, if_pos (by omega), wrap1 (by omega)]
      · rw [if_neg (by omega), if_pos (by omega), wrap1 (by omega)]
theorem without_ev (n : Nat) (hn : n ≤ 1000) (d : List (List Int)) (o : List Bool) : Ev (fun k => neonwrightlaw05_without.f k (n : Int) (clL n d o)) (notL n d o) :=
  without_l0 n hn d o n 0 (by omega) (by omega)
theorem notL_eq {n D : Nat} {d : List (List Int)} (hh : hidL n d D = []) {f : List Int} (hf : risB (n : Int) f = true) (hfl : f.length ≤ D) : notL n d (outB d f) = f := by
  refine asc_uniq ((range_asc n).filter _) (asc_risB (ris_ascN hf)).2 (fun x => ?_)
  unfold notL
  rw [List.mem_filter, List.mem_map]
  constructor
  · rintro ⟨⟨t, ht, rfl⟩, h⟩
    rw [cl_all hh hf hfl t (List.mem_range.1 ht), Bool.not_not] at h
    simpa using h
  · intro h
    have h1 := ris_mem hf x h
    refine ⟨⟨x.toNat, List.mem_range.2 (by omega), by omega⟩, ?_⟩
    have h2 := cl_all hh hf hfl x.toNat (by omega)
    rw [Int.toNat_of_nonneg h1.1] at h2
    rw [h2, Bool.not_not]
    simpa using h
theorem setR_one {n D : Nat} {d : List (List Int)} (hh : hidL n d D = []) {f : List Int} (hf : risB (n : Int) f = true) (hfl : f.length ≤ D) : setR n D d (outB d f) = [f] := by
  refine List.Perm.eq_singleton ((List.perm_ext_iff_of_nodup (setR_nodup _ _ _ _) (List.pairwise_singleton _ _)).2 fun l => ?_)
  rw [mem_setR, List.mem_singleton]
  constructor
  · rintro ⟨⟨h1, h2⟩, h3⟩
    exact (out_inj hh hf h2 hfl h1 h3.symm).symm
  · rintro rfl
    exact ⟨⟨hfl, hf⟩, rfl⟩
theorem dis_j1 (n : Int) (d : List (List Int)) (f : List Int) (D : Int) (o : List Bool) : Ev (fun k => neonwrightlaw05_FindDisjunct.j1 k n d f D o true) true := by
  refine Ev.step (f := fun k => (neonwrightlaw05_alive.f k).bind fun t => some t) (fun k => ?_) (Ev.bnd alive_ev (Ev.now true))
  simp only [neonwrightlaw05_FindDisjunct.j1]; rfl
theorem dis_j0 (n : Int) (d : List (List Int)) (f : List Int) (D : Int) : Ev (fun k => neonwrightlaw05_FindDisjunct.j0 k n d f D true) true := by
  refine Ev.step (f := fun k => (neonwrightlaw05_alive.f k).bind fun t => some t) (fun k => ?_) (Ev.bnd alive_ev (Ev.now true))
  simp only [neonwrightlaw05_FindDisjunct.j0]; rfl
theorem dis_main (n M : Nat) (d : List (List Int)) (f : List Int) (h0 : ofN (n : Int) d = 0) (hM : M ≤ 3) (hf : risB (n : Int) f = true) (hh : hidL n d M = []) (hfl : f.length ≤ M) : Ev (fun k => neonwrightlaw05_FindDisjunct.j1 k (n : Int) d f (M : Int) (outB d f) false) true := by
  have hn := (ofN_ok h0).1
  have hc : clrP (n : Int) d (outB d f) = (clL n d (outB d f), Lib.compact (isort (aloneL d (outB d f) (clL n d (outB d f)))), 0) := by unfold clrP; rw [if_pos h0, if_pos (outB_length d f)]; rfl
  have hs : setsP (n : Int) d (outB d f) (M : Int) = ([f], 0) := by
    unfold setsP
    rw [if_pos h0, if_pos ⟨outB_length d f, by omega, by omega⟩, show setR (n : Int).toNat (M : Int).toNat d (outB d f) = [f] from setR_one hh hf hfl]
    rfl
  have hw := without_ev n (by omega) d (outB d f)
  rw [notL_eq hh hf hfl] at hw
  have hsm := same_refl f (by omega)
  refine Ev.step (f := fun k => (neonwrightlaw05_without.f k (n : Int) (clL n d (outB d f))).bind fun t523 => ((neonwrightlaw05_same.f k t523 f).bind fun t526 => (if t526 = true then ((neonwrightlaw05_same.f k f f).bind fun t528 => (if t528 = true then ((neonwrightlaw05_alive.f k).bind fun t529 => (some t529)) else (some false))) else (some false)))) (fun k => ?_) ?_
  · simp only [neonwrightlaw05_FindDisjunct.j1]
    rw [if_neg (by decide)]
    unfold find_Cleared.f find_Sets.f
    rw [hc, hs]
    rfl
  · exact Ev.bnd hw (Ev.bnd hsm (Ev.pos rfl (Ev.bnd hsm (Ev.pos rfl (Ev.bnd alive_ev (Ev.now true))))))
theorem FindDisjunct (n : Int) (d : List (List Int)) (f : List Int) (D : Int) (w0 : (Lit.int .i64 n).wf = true) (w3 : (Lit.int .i64 D).wf = true) : ∃ k, neonwrightlaw05_FindDisjunct.f k n d f D = some true := by
  refine Ev.rounds ?_
  obtain ⟨b, hb, hs⟩ := few_ev d
  refine Ev.congr (f := fun k => (neonwrightlaw05_few.f k d).bind fun t501 => (if t501 = true then (if (f.length : Int) > 80 then (neonwrightlaw05_FindDisjunct.j0 k n d f D true) else (neonwrightlaw05_FindDisjunct.j0 k n d f D (decide (D > 2)))) else (neonwrightlaw05_FindDisjunct.j0 k n d f D true))) (fun k => rfl) (Ev.bnd hb ?_)
  cases b with
  | false => exact Ev.neg (by decide) (dis_j0 n d f D)
  | true =>
    refine Ev.pos rfl ?_
    by_cases h3 : (f.length : Int) > 80
    · exact Ev.pos h3 (dis_j0 n d f D)
    · refine Ev.neg h3 ?_
      by_cases h4 : D > 2
      · rw [decide_eq_true h4]; exact dis_j0 n d f D
      · rw [decide_eq_false h4]
        refine Ev.step (f := fun k => (if (hidP n d D).2 = 0 then (if (outP n d f).2 = 0 then (if ((hidP n d D).1.length : Int) > 0 then (neonwrightlaw05_FindDisjunct.j1 k n d f D (outP n d f).1 true) else (neonwrightlaw05_FindDisjunct.j1 k n d f D (outP n d f).1 (decide ((f.length : Int) > D)))) else (neonwrightlaw05_FindDisjunct.j1 k n d f D (outP n d f).1 true)) else (neonwrightlaw05_FindDisjunct.j1 k n d f D (outP n d f).1 true))) (fun k => ?_) ?_
        · simp only [neonwrightlaw05_FindDisjunct.j0]
          rw [if_neg (by decide)]
          rfl
        · by_cases e1 : (hidP n d D).2 = 0
          · refine Ev.pos e1 ?_
            by_cases e2 : (outP n d f).2 = 0
            · refine Ev.pos e2 ?_
              by_cases e3 : ((hidP n d D).1.length : Int) > 0
              · exact Ev.pos e3 (dis_j1 _ _ _ _ _)
              · refine Ev.neg e3 ?_
                by_cases e4 : (f.length : Int) > D
                · rw [decide_eq_true e4]; exact dis_j1 _ _ _ _ _
                · rw [decide_eq_false e4]
                  have h0 : ofN n d = 0 := by
                    by_cases h : ofN n d = 0
                    · exact h
                    · unfold hidP at e1; rw [if_neg h] at e1; exact absurd e1 h
                  have hD : 0 ≤ D ∧ D ≤ 3 := by
                    by_cases h : 0 ≤ D ∧ D ≤ 3
                    · exact h
                    · unfold hidP at e1; rw [if_pos h0, if_neg h] at e1; exact absurd e1 (by decide)
                  have hf : risB n f = true := by
                    cases h : risB n f with
                    | true => rfl
                    | false => unfold outP at e2; rw [if_pos h0, if_neg (by rw [h]; decide)] at e2; exact absurd e2 (by decide)
                  obtain ⟨N, rfl⟩ := Int.eq_ofNat_of_zero_le (show 0 ≤ n by have := (ofN_ok h0).1; omega)
                  obtain ⟨M, rfl⟩ := Int.eq_ofNat_of_zero_le hD.1
                  have hh : hidL N d M = [] := by
                    unfold hidP at e3
                    rw [if_pos h0, if_pos hD] at e3
                    exact List.length_eq_zero_iff.1 (by have e3' : ¬ ((hidL N d M).length : Int) > 0 := e3; omega)
                  have ho : (outP (N : Int) d f).1 = outB d f := by unfold outP; rw [if_pos h0, if_pos hf]
                  rw [ho]
                  exact dis_main N M d f h0 (by omega) hf hh (by omega)
            · exact Ev.neg e2 (dis_j1 _ _ _ _ _)
          · exact Ev.neg e1 (dis_j1 _ _ _ _ _)
end Go.Proofs.YtglajokjiphafaaDoor.Pure
