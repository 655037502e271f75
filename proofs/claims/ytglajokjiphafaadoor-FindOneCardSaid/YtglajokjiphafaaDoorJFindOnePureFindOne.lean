/- With the design of Halves one faulty tube is known. -/
import Derived.Test.YtglajokjiphafaaDoorJFindOne2
set_option linter.unusedSimpArgs false
set_option linter.unusedVariables false
namespace Go.Proofs.YtglajokjiphafaaDoor.Pure
open Go.RowKit Go.Proofs.YtglajokjiphafaaDoor.P Go.Proofs.YtglajokjiphafaaDoorW.PrintWords Go.Proofs.YtglajokjiphafaaDoorW.PrintLast Go.Proofs.YtglajokjiphafaaDoorW.PrintMore Go.Proofs.YtglajokjiphafaaDoor.Kit

theorem u8_wf1 {a : Int} (h : (Lit.int .u8 a).wf = true) : 0 ≤ a ∧ a ≤ 255 := by
  have h : (decide (IntKind.u8.min ≤ a) && decide (a ≤ IntKind.u8.max)) = true := h
  rw [Bool.and_eq_true, decide_eq_true_eq, decide_eq_true_eq] at h
  exact h
theorem bit_closed : ∀ t : Nat, t < 49 → ∀ i : Nat, i < 6 → ((Int.tmod (shr .i64 (t : Int) (i : Int)) 2) == 1) = t.testBit i := by decide +kernel
theorem shr_closed : ∀ j : Nat, j < 49 → shr .i64 (wrap64 (((j + 1 : Nat) : Int) - 1)) ((lenH (j + 1) : Nat) : Int) = 0 := by decide +kernel
theorem one_l1 (j t : Nat) (hj : j < 49) (s : List (List Int)) (hsl : s.length ≤ 2000) (hs : ∀ l ∈ s, l.length = 1 → l = [(t : Int)]) (hc : (s.filter fun l => l.length == 1).length = 1) : ∀ m i, s.length - i = m → i ≤ s.length →
    Ev (fun k => neonwrightlaw05_FindOne.l1 k ((j + 1 : Nat) : Int) (t : Int) (halvesL (j + 1)) s (((s.take i).filter fun l => l.length == 1).length : Int) (i : Int)) true := by
  intro m
  induction m with
  | zero =>
    intro i hm hi
    rw [List.take_of_length_le (by omega), hc]
    refine Ev.step (f := fun k => (neonwrightlaw05_alive.f k).bind fun t => some t) (fun k => ?_) (Ev.bnd alive_ev (Ev.now true))
    have hz := shr_closed j hj
    simp only [neonwrightlaw05_FindOne.l1]
    rw [if_neg (by omega), halvesL_length, hz, if_pos (by rfl), if_pos rfl]
  | succ m ih =>
    intro i hm hi
    have hlt : i < s.length := by omega
    have h1 := ih (i + 1) (by omega) (by omega)
    rw [List.take_succ_eq_append_getElem hlt, List.filter_append, List.length_append] at h1
    have hle : ((s.take i).filter fun l => l.length == 1).length ≤ 2000 := by
      have := List.length_filter_le (fun l : List Int => l.length == 1) (s.take i)
      rw [List.length_take] at this
      omega
    by_cases e : s[i].length = 1
    · rw [List.filter_cons_of_pos (by simpa using e)] at h1
      have h2 := hs s[i] (List.getElem_mem hlt) e
      have h3 : rd s[i] 0 = (t : Int) := by rw [h2]; rfl
      refine Ev.step (fun k => ?_) h1
      simp only [neonwrightlaw05_FindOne.l1]
      rw [if_pos (by omega), if_pos (by omega), rdL_get s i hlt, if_pos (by omega), if_pos (by omega), h3, if_pos rfl, wrap1 (by omega), wrap1 (by omega)]
      rfl
    · rw [List.filter_cons_of_neg (by simpa using e)] at h1
      refine Ev.step (fun k => ?_) h1
      simp only [neonwrightlaw05_FindOne.l1]
      rw [if_pos (by omega), if_pos (by omega), rdL_get s i hlt, if_neg (by omega), wrap1 (by omega)]
      rfl
theorem one_l0 (j t : Nat) (hj : j < 49) (ht : t < j + 1) : ∀ m i, lenH (j + 1) - i = m → i ≤ lenH (j + 1) →
    Ev (fun k => neonwrightlaw05_FindOne.l0 k ((j + 1 : Nat) : Int) (t : Int) (halvesL (j + 1)) (outB (halvesL (j + 1)) [(t : Int)]) (i : Int)) true := by
  have hl := lenH_le j hj
  have hol : (outB (halvesL (j + 1)) [(t : Int)]).length = lenH (j + 1) := by rw [outB_length, halvesL_length]
  intro m
  induction m with
  | zero =>
    intro i hm hi
    have hsing := setR_singles hj ht
    have hsz : (setR (j + 1) 1 (halvesL (j + 1)) (outB (halvesL (j + 1)) [(t : Int)])).length ≤ 2000 := by
      refine Nat.le_trans (List.length_filter_le _ _) ?_
      have : ∀ j : Nat, j < 49 → (pre (j + 1) 1 0).length ≤ 2000 := by decide +kernel
      exact this j hj
    have hs : setsP ((j + 1 : Nat) : Int) (halvesL (j + 1)) (outB (halvesL (j + 1)) [(t : Int)]) 1 = (setR (j + 1) 1 (halvesL (j + 1)) (outB (halvesL (j + 1)) [(t : Int)]), 0) := by
      unfold setsP
      rw [if_pos (halves_of j hj), if_pos ⟨outB_length _ _, by decide, by decide⟩]
      exact if_pos hsz
    have h1 := one_l1 j t hj _ hsz (fun l hl2 h2 => by
      have : l ∈ (setR (j + 1) 1 (halvesL (j + 1)) (outB (halvesL (j + 1)) [(t : Int)])).filter (fun l => l.length == 1) := List.mem_filter.2 ⟨hl2, by simpa using h2⟩
      rw [hsing] at this
      exact List.mem_singleton.1 this) (by rw [hsing]; rfl) _ 0 rfl (Nat.zero_le _)
    refine Ev.step (fun k => ?_) h1
    simp only [neonwrightlaw05_FindOne.l0]
    rw [if_neg (by omega)]
    unfold find_Sets.f
    rw [hs]
    rfl
  | succ m ih =>
    intro i hm hi
    have hlt : i < lenH (j + 1) := by omega
    have hio : i < (outB (halvesL (j + 1)) [(t : Int)]).length := by omega
    have hrd : rdOf false (outB (halvesL (j + 1)) [(t : Int)]) (i : Int) = t.testBit i := by
      rw [rdB_get _ i hio]
      simp only [outB_one _ _ ht]
      rw [List.getElem_map, List.getElem_range]
    refine Ev.step (fun k => ?_) (ih (i + 1) (by omega) (by omega))
    simp only [neonwrightlaw05_FindOne.l0]
    rw [if_pos (by omega), if_pos (by omega), hrd, bit_closed t (by omega) i (by omega), if_neg (by simp), wrap1 (by omega)]
theorem FindOne (a0 a1 : Int) (w0 : (Lit.int .u8 a0).wf = true) (w1 : (Lit.int .u8 a1).wf = true) : ∃ k, neonwrightlaw05_FindOne.f k a0 a1 = some true := by
  refine Ev.rounds ?_
  have u0 := u8_wf1 w0
  have u1 := u8_wf1 w1
  obtain ⟨j, hi⟩ := Int.eq_ofNat_of_zero_le (show 0 ≤ Int.tmod a0 49 by rw [Int.tmod_eq_emod_of_nonneg u0.1]; omega)
  have hj : j < 49 := by rw [Int.tmod_eq_emod_of_nonneg u0.1] at hi; omega
  have hn : wrap64 (1 + wrap64 (j : Int)) = ((j + 1 : Nat) : Int) := by
    have : ∀ j : Nat, j < 49 → wrap64 (1 + wrap64 (j : Int)) = ((j + 1 : Nat) : Int) := by decide +kernel
    exact this j hj
  have hd0 : 0 ≤ Int.tmod a1 ((j + 1 : Nat) : Int) ∧ Int.tmod a1 ((j + 1 : Nat) : Int) < ((j + 1 : Nat) : Int) := by
    rw [Int.tmod_eq_emod_of_nonneg u1.1]
    exact ⟨Int.emod_nonneg _ (by omega), Int.emod_lt_of_pos _ (by omega)⟩
  obtain ⟨t, hd⟩ := Int.eq_ofNat_of_zero_le hd0.1
  have ht : t < j + 1 := by have := hd0.2; rw [hd] at this; omega
  have hw1 : wrap64 a1 = a1 := by clear hn; exact w64 (by omega) (by omega)
  have hH : Ev (fun k => find_Halves.f k ((j + 1 : Nat) : Int)) (halvesL (j + 1), 0) := Ev.of (find_Halves.mono _) (halves_closed j hj)
  have hr : risB ((j + 1 : Nat) : Int) [(t : Int)] = true := asc_ris ⟨t, rfl, Nat.zero_le _, ht, trivial⟩
  have ho : outP ((j + 1 : Nat) : Int) (halvesL (j + 1)) [(t : Int)] = (outB (halvesL (j + 1)) [(t : Int)], 0) := by unfold outP; rw [if_pos (halves_of j hj), if_pos hr]
  have h0 := one_l0 j t hj ht (lenH (j + 1)) 0 (by omega) (by omega)
  have hj0 : Ev (fun k => neonwrightlaw05_FindOne.j0 k ((j + 1 : Nat) : Int) (t : Int) (halvesL (j + 1)) (outB (halvesL (j + 1)) [(t : Int)]) (((outB (halvesL (j + 1)) [(t : Int)]).length : Int) != ((halvesL (j + 1)).length : Int))) true := by
    rw [outB_length, show (((halvesL (j + 1)).length : Int) != ((halvesL (j + 1)).length : Int)) = false by simp]
    refine Ev.step (fun k => ?_) h0
    simp only [neonwrightlaw05_FindOne.j0]
    rw [if_neg (by decide)]
    rfl
  refine Ev.congr (f := fun k => (find_Halves.f k ((j + 1 : Nat) : Int)).bind fun bt474 => ((find_Outcomes.f ((j + 1 : Nat) : Int) bt474.1 [(t : Int)]).bind fun bt481 => (if bt474.2 = 0 then (if bt481.2 = 0 then (neonwrightlaw05_FindOne.j0 k ((j + 1 : Nat) : Int) (t : Int) bt474.1 bt481.1 ((bt481.1.length : Int) != (bt474.1.length : Int))) else (neonwrightlaw05_FindOne.j0 k ((j + 1 : Nat) : Int) (t : Int) bt474.1 bt481.1 true)) else (neonwrightlaw05_FindOne.j0 k ((j + 1 : Nat) : Int) (t : Int) bt474.1 bt481.1 true)))) (fun k => ?_) (Ev.bnd hH ?_)
  · unfold neonwrightlaw05_FindOne.f
    rw [hi, hn, hw1, hd, if_neg (by omega)]
  · refine Ev.congr (f := fun k => neonwrightlaw05_FindOne.j0 k ((j + 1 : Nat) : Int) (t : Int) (halvesL (j + 1)) (outB (halvesL (j + 1)) [(t : Int)]) (((outB (halvesL (j + 1)) [(t : Int)]).length : Int) != ((halvesL (j + 1)).length : Int))) (fun k => ?_) hj0
    unfold find_Outcomes.f
    simp only [ho, Option.bind_some]
    rw [if_pos trivial, if_pos trivial]
end Go.Proofs.YtglajokjiphafaaDoor.Pure
