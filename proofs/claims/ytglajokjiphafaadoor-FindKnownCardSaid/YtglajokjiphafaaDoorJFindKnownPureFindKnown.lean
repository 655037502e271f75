/- Cleared and Sets speak true of the faulty tubes. -/
import Derived.Test.YtglajokjiphafaaDoorJFindKnown2
import Derived.Test.YtglajokjiphafaaDoorJFindKnown1
set_option linter.unusedSimpArgs false
set_option linter.unusedVariables false
namespace Go.Proofs.YtglajokjiphafaaDoor.Pure
open Go.RowKit Go.Proofs.YtglajokjiphafaaDoor.P Go.Proofs.YtglajokjiphafaaDoorW.PrintWords Go.Proofs.YtglajokjiphafaaDoorW.PrintLast Go.Proofs.YtglajokjiphafaaDoorW.PrintMore Go.Proofs.YtglajokjiphafaaDoor.Kit

theorem same_d0 (a b : List Int) (he : a.length = b.length) (hl : a.length ≤ 4611686018427387904) : ∀ m i, a.length - i = m → i ≤ a.length → Ev (fun k => neonwrightlaw05_same.l0 k a b (i : Int)) (decide (a.drop i = b.drop i)) := by
  intro m
  induction m with
  | zero =>
    intro i hm hi
    rw [List.drop_of_length_le (show a.length ≤ i by omega), List.drop_of_length_le (show b.length ≤ i by omega), decide_eq_true rfl]
    refine Ev.step (fun k => ?_) (Ev.now true)
    simp only [neonwrightlaw05_same.l0]
    rw [if_neg (by omega)]
  | succ m ih =>
    intro i hm hi
    have hla : i < a.length := by omega
    have hlb : i < b.length := by omega
    have h1 := ih (i + 1) (by omega) (by omega)
    rw [List.drop_eq_getElem_cons hla, List.drop_eq_getElem_cons hlb]
    by_cases e : a[i] = b[i]
    · rw [show decide (a[i] :: a.drop (i + 1) = b[i] :: b.drop (i + 1)) = decide (a.drop (i + 1) = b.drop (i + 1)) from decide_eq_decide.2 ⟨fun h => (List.cons.inj h).2, fun h => by rw [e, h]⟩]
      refine Ev.step (fun k => ?_) h1
      simp only [neonwrightlaw05_same.l0]
      rw [if_pos (by omega), if_pos (by omega), if_pos (by omega), rd_get a i hla, rd_get b i hlb, if_pos e, wrap1 (by omega)]
    · rw [show decide (a[i] :: a.drop (i + 1) = b[i] :: b.drop (i + 1)) = false from decide_eq_false (fun h => e (List.cons.inj h).1)]
      refine Ev.step (fun k => ?_) (Ev.now false)
      simp only [neonwrightlaw05_same.l0]
      rw [if_pos (by omega), if_pos (by omega), if_pos (by omega), rd_get a i hla, rd_get b i hlb, if_neg e]
theorem same_dec (a b : List Int) (hl : a.length ≤ 4611686018427387904) (hlb : b.length ≤ 4611686018427387904) : Ev (fun k => neonwrightlaw05_same.f k a b) (decide (a = b)) := by
  by_cases h : a.length = b.length
  · have := same_d0 a b h hl a.length 0 (by omega) (by omega)
    rw [List.drop_zero, List.drop_zero] at this
    refine Ev.congr (fun k => ?_) this
    unfold neonwrightlaw05_same.f
    rw [if_pos (by omega)]
    rfl
  · rw [decide_eq_false (fun e => h (by rw [e]))]
    refine Ev.congr (fun k => ?_) (Ev.now false)
    unfold neonwrightlaw05_same.f
    rw [if_neg (by omega)]
theorem flagsK_l0 (l : List Bool) (hl : l.length ≤ 4611686018427387904) : ∀ m i, l.length - i = m → i ≤ l.length → Ev (fun k => neonwrightlaw05_flags.l0 k l l (i : Int)) true := by
  intro m
  induction m with
  | zero =>
    intro i hm hi
    refine Ev.step (fun k => ?_) (Ev.now true)
    simp only [neonwrightlaw05_flags.l0]
    rw [if_neg (by omega)]
  | succ m ih =>
    intro i hm hi
    refine Ev.step (fun k => ?_) (ih (i + 1) (by omega) (by omega))
    simp only [neonwrightlaw05_flags.l0]
    rw [if_pos (by omega), if_pos (by omega), if_pos (by omega), if_neg (by simp), wrap1 (by omega)]
theorem flagsK (l : List Bool) (hl : l.length ≤ 4611686018427387904) : Ev (fun k => neonwrightlaw05_flags.f k l l) true := by
  refine Ev.congr (f := fun k => neonwrightlaw05_flags.l0 k l l ((0 : Nat) : Int)) (fun k => ?_) (flagsK_l0 l hl l.length 0 (by omega) (by omega))
  unfold neonwrightlaw05_flags.f
  rw [if_pos rfl]
  rfl
/-- Cleared never clears a faulty tube. -/
theorem cl_not (n : Nat) (d : List (List Int)) (f : List Int) (x : Int) (hx : x ∈ clL n d (outB d f)) : x ∉ f := by
  intro hf
  obtain ⟨r, hr, h1, h2⟩ := (clB_out d f x).1 ((mem_clL _ _ _ _).1 hx).2
  have : (f.any fun y => r.contains y) = true := List.any_eq_true.2 ⟨x, hf, h1⟩
  rw [this] at h2; cases h2
/-- Every tube of the second list is faulty. -/
theorem al_in (n : Nat) (d : List (List Int)) (f : List Int) (h0 : ofN (n : Int) d = 0) (x : Int) (hx : x ∈ Lib.compact (isort (aloneL d (outB d f) (clL n d (outB d f))))) : x ∈ f := by
  rw [compact_all (isort_sorted _), mem_isort] at hx
  unfold aloneL at hx
  rw [List.mem_filterMap] at hx
  obtain ⟨⟨r, b⟩, hp, h⟩ := hx
  have hr := (List.of_mem_zip hp).1
  have hb : b = f.any fun y => r.contains y := by
    obtain ⟨i, hi, e⟩ := List.mem_iff_getElem.1 hp
    rw [List.getElem_zip] at e
    injection e with e1 e2
    rw [← e1, ← e2]
    simp [outB]
  obtain ⟨h1, h2, h3, h4⟩ := (aloneF_iff _ r b x (asc_risB (ris_ascN ((ofN_ok h0).2.2 r hr))).2).1 h
  rw [hb] at h1
  obtain ⟨y, hy, hyr⟩ := List.any_eq_true.1 h1
  have hyc : (clL n d (outB d f)).contains y = false := by
    cases hc : (clL n d (outB d f)).contains y with
    | false => rfl
    | true => exact absurd hy (cl_not n d f y (by simpa using hc))
  have := h4 y (by simpa using hyr) hyc
  rw [← this]; exact hy
section
variable (n : Int) (d : List (List Int)) (f : List Int) (D : Int) (o : List Bool)
theorem kn_l4 (s : List (List Int)) (hsl : s.length ≤ 2000) (hfl : f.length ≤ 80) (hs : ∀ l ∈ s, outP n d l = (o, 0) ∧ (l.length : Int) ≤ D ∧ l.length ≤ 100) (ho : o.length ≤ 100) : ∀ m i b, s.length - i = m → i ≤ s.length → (b = true ∨ f ∈ s.drop i) →
    Ev (fun k => neonwrightlaw05_FindKnown.l4 k n d f D o s b (i : Int)) true := by
  intro m
  induction m with
  | zero =>
    intro i b hm hi hin
    rw [List.drop_of_length_le (by omega)] at hin
    have hb : b = true := by rcases hin with h | h; exact h; cases h
    subst hb
    refine Ev.step (f := fun k => (neonwrightlaw05_alive.f k).bind fun t => some t) (fun k => ?_) (Ev.bnd alive_ev (Ev.now true))
    simp only [neonwrightlaw05_FindKnown.l4]
    rw [if_neg (by omega), if_pos trivial]
  | succ m ih =>
    intro i b hm hi hin
    have hlt : i < s.length := by omega
    obtain ⟨h1, h2, h3⟩ := hs s[i] (List.getElem_mem hlt)
    have hj : ∀ b', (b' = true ∨ f ∈ s.drop (i + 1)) → Ev (fun k => neonwrightlaw05_FindKnown.j6 k n d f D o s b' (i : Int)) true := by
      intro b' hb'
      refine Ev.step (f := fun k => (neonwrightlaw05_flags.f k o o).bind fun t563 => (if t563 = true then (neonwrightlaw05_FindKnown.l4 k n d f D o s b' ((i + 1 : Nat) : Int)) else (some false))) (fun k => ?_) (Ev.bnd (flagsK o (by omega)) (Ev.pos rfl (ih (i + 1) b' (by omega) (by omega) hb')))
      simp only [neonwrightlaw05_FindKnown.j6]
      rw [if_pos (by omega), if_pos (by omega), rdL_get s i hlt]
      unfold find_Outcomes.f
      rw [h1, Option.bind_some, if_neg (show ¬ ((s[i].length : Int) > D) by omega), wrap1 (by omega)]
      rfl
    rw [List.drop_eq_getElem_cons hlt] at hin
    cases b with
    | true =>
      refine Ev.step (fun k => ?_) (hj true (.inl rfl))
      simp only [neonwrightlaw05_FindKnown.l4]
      rw [if_pos (by omega), if_pos trivial]
    | false =>
      have hin' : f = s[i] ∨ f ∈ s.drop (i + 1) := by
        rcases hin with h | h
        · cases h
        · exact List.mem_cons.1 h
      have hsd := same_dec s[i] f (by omega) (by omega)
      refine Ev.step (f := fun k => (neonwrightlaw05_same.f k s[i] f).bind fun t557 => (neonwrightlaw05_FindKnown.j6 k n d f D o s t557 (i : Int))) (fun k => ?_) (Ev.bnd hsd (hj _ ?_))
      · simp only [neonwrightlaw05_FindKnown.l4]
        rw [if_pos (by omega), if_neg (by decide), if_pos (by omega), rdL_get s i hlt]
      · rcases hin' with h | h
        · left; rw [h]; exact decide_eq_true rfl
        · exact .inr h
theorem kn_l3 (a : List Int) (s : List (List Int)) (e : Int) (i : Nat) (hi : i < a.length) (hal : a.length ≤ 100) (hfl : f.length ≤ 80) (hn : Ev (fun k => neonwrightlaw05_FindKnown.l2 k n d f D o a s e ((i + 1 : Nat) : Int)) true) : ∀ m j b, f.length - j = m → j ≤ f.length → (b = true ∨ a[i] ∈ f.drop j) →
    Ev (fun k => neonwrightlaw05_FindKnown.l3 k n d f D o a s e (i : Int) b (j : Int)) true := by
  intro m
  induction m with
  | zero =>
    intro j b hm hj hin
    rw [List.drop_of_length_le (by omega)] at hin
    have hb : b = true := by rcases hin with h | h; exact h; cases h
    subst hb
    refine Ev.step (fun k => ?_) hn
    simp only [neonwrightlaw05_FindKnown.l3]
    rw [if_neg (by omega), if_pos trivial, wrap1 (by omega)]
  | succ m ih =>
    intro j b hm hj hin
    have hlt : j < f.length := by omega
    rw [List.drop_eq_getElem_cons hlt] at hin
    cases b with
    | true =>
      refine Ev.step (fun k => ?_) (ih (j + 1) true (by omega) (by omega) (.inl rfl))
      simp only [neonwrightlaw05_FindKnown.l3]
      rw [if_pos (by omega), if_pos trivial, wrap1 (by omega)]
    | false =>
      have hin' : a[i] = f[j] ∨ a[i] ∈ f.drop (j + 1) := by
        rcases hin with h | h
        · cases h
        · exact List.mem_cons.1 h
      refine Ev.step (fun k => ?_) (ih (j + 1) (f[j] == a[i]) (by omega) (by omega) ?_)
      · simp only [neonwrightlaw05_FindKnown.l3]
        rw [if_pos (by omega), if_neg (by decide), if_pos (by omega), if_pos (by omega), if_pos (by omega), rd_get f j hlt, rd_get a i hi, wrap1 (by omega)]
      · rcases hin' with h | h
        · left; rw [h]; simp
        · exact .inr h
theorem kn_l2 (a : List Int) (s : List (List Int)) (e : Int) (hal : a.length ≤ 100) (hfl : f.length ≤ 80) (ha : ∀ x ∈ a, x ∈ f) (hend : ∀ i : Nat, i = a.length → Ev (fun k => neonwrightlaw05_FindKnown.l2 k n d f D o a s e (i : Int)) true) : ∀ m i, a.length - i = m → i ≤ a.length →
    Ev (fun k => neonwrightlaw05_FindKnown.l2 k n d f D o a s e (i : Int)) true := by
  intro m
  induction m with
  | zero =>
    intro i hm hi
    exact hend i (by omega)
  | succ m ih =>
    intro i hm hi
    have hlt : i < a.length := by omega
    refine Ev.step (fun k => ?_) (kn_l3 n d f D o a s e i hlt hal hfl (ih (i + 1) (by omega) (by omega)) f.length 0 false (by omega) (by omega) (.inr (by rw [List.drop_zero]; exact ha _ (List.getElem_mem hlt))))
    simp only [neonwrightlaw05_FindKnown.l2]
    rw [if_pos (by omega)]
    rfl
theorem kn_l1 (c a : List Int) (s : List (List Int)) (e : Int) (i : Nat) (hi : i < f.length) (hcl : c.length ≤ 100) (hfl : f.length ≤ 80) (hc : ∀ x ∈ c, x ∉ f) (hn : Ev (fun k => neonwrightlaw05_FindKnown.l0 k n d f D o c a s e ((i + 1 : Nat) : Int)) true) : ∀ m j, c.length - j = m → j ≤ c.length →
    Ev (fun k => neonwrightlaw05_FindKnown.l1 k n d f D o c a s e (i : Int) (j : Int)) true := by
  intro m
  induction m with
  | zero =>
    intro j hm hj
    refine Ev.step (fun k => ?_) hn
    simp only [neonwrightlaw05_FindKnown.l1]
    rw [if_neg (by omega), wrap1 (by omega)]
  | succ m ih =>
    intro j hm hj
    have hlt : j < c.length := by omega
    have hne : ¬ c[j] = f[i] := fun h => hc _ (List.getElem_mem hlt) (by rw [h]; exact List.getElem_mem hi)
    refine Ev.step (fun k => ?_) (ih (j + 1) (by omega) (by omega))
    simp only [neonwrightlaw05_FindKnown.l1]
    rw [if_pos (by omega), if_pos (by omega), if_pos (by omega), if_pos (by omega), rd_get c j hlt, rd_get f i hi, if_neg hne, wrap1 (by omega)]
theorem kn_l0 (c a : List Int) (s : List (List Int)) (e : Int) (hcl : c.length ≤ 100) (hfl : f.length ≤ 80) (hc : ∀ x ∈ c, x ∉ f) (hn : Ev (fun k => neonwrightlaw05_FindKnown.l2 k n d f D o a s e 0) true) : ∀ m i, f.length - i = m → i ≤ f.length →
    Ev (fun k => neonwrightlaw05_FindKnown.l0 k n d f D o c a s e (i : Int)) true := by
  intro m
  induction m with
  | zero =>
    intro i hm hi
    refine Ev.step (fun k => ?_) hn
    simp only [neonwrightlaw05_FindKnown.l0]
    rw [if_neg (by omega)]
  | succ m ih =>
    intro i hm hi
    have hlt : i < f.length := by omega
    refine Ev.step (fun k => ?_) (kn_l1 n d f D o c a s e i hlt hcl hfl hc (ih (i + 1) (by omega) (by omega)) c.length 0 (by omega) (by omega))
    simp only [neonwrightlaw05_FindKnown.l0]
    rw [if_pos (by omega)]
    rfl
end
theorem kn_j0 (n : Int) (d : List (List Int)) (f : List Int) (D : Int) : Ev (fun k => neonwrightlaw05_FindKnown.j0 k n d f D true) true := by
  refine Ev.step (f := fun k => (neonwrightlaw05_alive.f k).bind fun t => some t) (fun k => ?_) (Ev.bnd alive_ev (Ev.now true))
  simp only [neonwrightlaw05_FindKnown.j0]; rfl
theorem kn_main (N : Nat) (d : List (List Int)) (f : List Int) (D : Int) (h0 : ofN (N : Int) d = 0) (hD : D ≤ 2) (hf : risB (N : Int) f = true) (hfl : f.length ≤ 80) :
    Ev (fun k => neonwrightlaw05_FindKnown.l0 k (N : Int) d f D (outB d f) (clL N d (outB d f)) (Lib.compact (isort (aloneL d (outB d f) (clL N d (outB d f))))) (setsP (N : Int) d (outB d f) D).1 (setsP (N : Int) d (outB d f) D).2 0) true := by
  have hn := (ofN_ok h0).1
  have hd := (ofN_ok h0).2.1
  have hal : (Lib.compact (isort (aloneL d (outB d f) (clL N d (outB d f))))).length ≤ 100 := by
    have h2 := compact_len (isort (aloneL d (outB d f) (clL N d (outB d f))))
    rw [isort_length] at h2
    have h3 := aloneL_length d (outB d f) (clL N d (outB d f))
    omega
  have hcl : (clL N d (outB d f)).length ≤ 100 := by have := clL_length N d (outB d f); omega
  have hol : (outB d f).length ≤ 100 := by rw [outB_length]; omega
  refine kn_l0 (N : Int) d f D (outB d f) _ _ _ _ hcl hfl (cl_not N d f) ?_ f.length 0 (by omega) (by omega)
  refine kn_l2 (N : Int) d f D (outB d f) _ _ _ hal hfl (al_in N d f h0) (fun i hi => ?_) _ 0 rfl (by omega)
  have halive : ∀ g : Nat → Option Bool, (∀ k, g (k + 1) = (neonwrightlaw05_alive.f k).bind fun t => some t) → Ev g true := fun g hg => Ev.step (f := fun k => (neonwrightlaw05_alive.f k).bind fun t => some t) hg (Ev.bnd alive_ev (Ev.now true))
  by_cases hD0 : 0 ≤ D
  · obtain ⟨M, rfl⟩ := Int.eq_ofNat_of_zero_le hD0
    by_cases hb : (setR N M d (outB d f)).length ≤ 2000
    · have hs : setsP (N : Int) d (outB d f) (M : Int) = (setR N M d (outB d f), 0) := by
        unfold setsP
        rw [if_pos h0, if_pos ⟨outB_length d f, by omega, by omega⟩]
        exact if_pos hb
      rw [hs]
      have h4 := kn_l4 (N : Int) d f (M : Int) (outB d f) (setR N M d (outB d f)) hb hfl (fun l hl => by
        obtain ⟨⟨a1, a2⟩, a3⟩ := (mem_setR _ _ _ _ _).1 hl
        refine ⟨?_, by omega, by omega⟩
        unfold outP
        rw [if_pos h0, if_pos a2, a3]) hol _ 0 (decide ((f.length : Int) > (M : Int))) rfl (by omega) (by
          by_cases h : (f.length : Int) > (M : Int)
          · exact .inl (decide_eq_true h)
          · right
            rw [List.drop_zero]
            exact (mem_setR _ _ _ _ _).2 ⟨⟨by omega, hf⟩, rfl⟩)
      refine Ev.step (fun k => ?_) h4
      simp only [neonwrightlaw05_FindKnown.l2]
      rw [if_neg (by omega), if_pos trivial]
      rfl
    · have hs : setsP (N : Int) d (outB d f) (M : Int) = ([], 8) := by
        unfold setsP
        rw [if_pos h0, if_pos ⟨outB_length d f, by omega, by omega⟩]
        exact if_neg hb
      rw [hs]
      refine halive _ (fun k => ?_)
      simp only [neonwrightlaw05_FindKnown.l2]
      rw [if_neg (by omega), if_neg (by decide), if_neg (by decide), if_pos trivial]
  · have hs : setsP (N : Int) d (outB d f) D = ([], 2) := by
      unfold setsP
      rw [if_pos h0, if_neg (by omega)]
    rw [hs]
    refine halive _ (fun k => ?_)
    simp only [neonwrightlaw05_FindKnown.l2]
    rw [if_neg (by omega), if_neg (by decide), if_pos trivial, if_pos (by omega)]
theorem FindKnown (n : Int) (d : List (List Int)) (f : List Int) (D : Int) (w0 : (Lit.int .i64 n).wf = true) (w3 : (Lit.int .i64 D).wf = true) : ∃ k, neonwrightlaw05_FindKnown.f k n d f D = some true := by
  refine Ev.rounds ?_
  obtain ⟨b, hb, hs⟩ := few_ev d
  refine Ev.congr (f := fun k => (neonwrightlaw05_few.f k d).bind fun t501 => (if t501 = true then (if (f.length : Int) > 80 then (neonwrightlaw05_FindKnown.j0 k n d f D true) else (neonwrightlaw05_FindKnown.j0 k n d f D (decide (D > 2)))) else (neonwrightlaw05_FindKnown.j0 k n d f D true))) (fun k => rfl) (Ev.bnd hb ?_)
  cases b with
  | false => exact Ev.neg (by decide) (kn_j0 n d f D)
  | true =>
    refine Ev.pos rfl ?_
    by_cases h3 : (f.length : Int) > 80
    · exact Ev.pos h3 (kn_j0 n d f D)
    · refine Ev.neg h3 ?_
      by_cases h4 : D > 2
      · rw [decide_eq_true h4]; exact kn_j0 n d f D
      · rw [decide_eq_false h4]
        by_cases e2 : (outP n d f).2 = 0
        · have h0 : ofN n d = 0 := by
            by_cases h : ofN n d = 0
            · exact h
            · unfold outP at e2; rw [if_neg h] at e2; exact absurd e2 h
          have hf : risB n f = true := by
            cases h : risB n f with
            | true => rfl
            | false => unfold outP at e2; rw [if_pos h0, if_neg (by rw [h]; decide)] at e2; exact absurd e2 (by decide)
          obtain ⟨N, rfl⟩ := Int.eq_ofNat_of_zero_le (show 0 ≤ n by have := (ofN_ok h0).1; omega)
          have ho : outP (N : Int) d f = (outB d f, 0) := by unfold outP; rw [if_pos h0, if_pos hf]
          have hc : clrP (N : Int) d (outB d f) = (clL N d (outB d f), Lib.compact (isort (aloneL d (outB d f) (clL N d (outB d f)))), 0) := by unfold clrP; rw [if_pos h0, if_pos (outB_length d f)]; rfl
          refine Ev.step (fun k => ?_) (kn_main N d f D h0 (by omega) hf (by omega))
          simp only [neonwrightlaw05_FindKnown.j0]
          rw [if_neg (by decide)]
          unfold find_Outcomes.f find_Cleared.f find_Sets.f
          rw [ho]
          simp only [Option.bind_some]
          rw [if_pos trivial, hc]
          rfl
        · have ho : (outP n d f).1 = [] := by
            unfold outP at e2 ⊢
            by_cases h : ofN n d = 0
            · rw [if_pos h] at e2 ⊢
              cases h2 : risB n f with
              | true => rw [h2, if_pos rfl] at e2; exact absurd rfl e2
              | false => rfl
            · rw [if_neg h]
          refine Ev.step (f := fun k => (neonwrightlaw05_alive.f k).bind fun t => some t) (fun k => ?_) (Ev.bnd alive_ev (Ev.now true))
          simp only [neonwrightlaw05_FindKnown.j0]
          rw [if_neg (by decide)]
          unfold find_Outcomes.f
          rw [Option.bind_some, if_neg e2, ho]
          rfl
end Go.Proofs.YtglajokjiphafaaDoor.Pure
