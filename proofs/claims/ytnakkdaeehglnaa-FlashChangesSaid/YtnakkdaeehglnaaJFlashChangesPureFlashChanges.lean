/- On a closed path every tube changes an even number of times, and the changes are as many as the states; on any other path they are one fewer; on the closed path of Gray the tube t changes 2^(n - 1 - t) times, but for the last tube, which changes twice (beyond 600 states the statement asks the closed example alone). -/
import Derived.Test.YtnakkdaeehglnaaJFlashChanges1
import Derived.Test.YtnakkdaeehglnaaJFlashChanges2
import Derived.Test.YtnakkdaeehglnaaJFlashChanges3
set_option linter.unusedSimpArgs false
set_option linter.unusedVariables false
namespace Go.Proofs.Ytnakkdaeehglnaa.Pure
open Go.Lib Go.RowKit Go.Proofs.YtnakkdaeehglnaaW.PrintWords Go.Proofs.YtnakkdaeehglnaaW.PrintMore Go.Proofs.Ytnakkdaeehglnaa.Kit Go.Proofs.Ytnakkdaeehglnaa.P

/-- What is looked at on the path of Gray. -/
def chgChk (m : Nat) : Bool := decide (changesL m (grays (2 ^ m)) = ((List.range (m - 1)).map fun (t : Nat) => ((2 ^ (m - 1 - t) : Nat) : Int)) ++ [2])
theorem chg_chk : ((List.range 9).all fun m => decide (m < 2) || chgChk m) = true := by decide +kernel
theorem gray_changes {m : Nat} (h1 : 2 ≤ m) (h2 : m ≤ 8) : changesL m (grays (2 ^ m)) = ((List.range (m - 1)).map fun (t : Nat) => ((2 ^ (m - 1 - t) : Nat) : Int)) ++ [2] := by
  have h := List.all_eq_true.1 chg_chk m (List.mem_range.2 (by omega))
  rw [decide_eq_false (by omega), Bool.false_or] at h
  exact of_decide_eq_true h
theorem grays_succ (i : Nat) : grays (i + 1) = grays i ++ [(gray i : Int)] := by
  unfold grays
  rw [List.range_succ, List.map_append]
  rfl
theorem chg_l2 {m : Nat} (h1 : 2 ≤ m) (h2 : m ≤ 8) (x : List Int) (hx : x = ((List.range (m - 1)).map fun (t : Nat) => ((2 ^ (m - 1 - t) : Nat) : Int)) ++ [2]) : ∀ d t, (m - 1) - t = d → t ≤ m - 1 →
    Ev (fun k => neonwrightlaw04_FlashChanges.l2 k (m : Int) x (t : Int)) true := by
  have hlen : x.length = m := by rw [hx, List.length_append, List.length_map, List.length_range, List.length_singleton]; omega
  have hw : wrap64 ((m : Int) - 1) = ((m - 1 : Nat) : Int) := by rw [w64 (by omega) (by omega)]; omega
  intro d
  induction d with
  | zero =>
    intro t hd ht
    refine Ev.step (f := fun k => (neonwrightlaw04_alive.f k).bind fun t496 => (some t496)) (fun k => ?_) (Ev.bnd alive_ev (Ev.now true))
    simp only [neonwrightlaw04_FlashChanges.l2]
    rw [hw, if_neg (by omega)]
  | succ d ih =>
    intro t hd ht
    have hnext := ih (t + 1) (by omega) (by omega)
    have hrd : rd x (t : Int) = ((2 ^ (m - 1 - t) : Nat) : Int) := by
      rw [rd_get x t (by omega)]
      subst hx
      rw [List.getElem_append_left (by rw [List.length_map, List.length_range]; omega), List.getElem_map, List.getElem_range]
    refine Ev.step (f := fun k => neonwrightlaw04_FlashChanges.l2 k (m : Int) x ((t + 1 : Nat) : Int)) (fun k => ?_) hnext
    have hw2 : wrap64 (((m - 1 : Nat) : Int) - (t : Int)) = ((m - 1 - t : Nat) : Int) := by rw [w64 (by omega) (by omega)]; omega
    simp only [neonwrightlaw04_FlashChanges.l2]
    rw [hw, hw2, if_pos (by omega), if_pos (by omega), if_pos (by omega), if_pos (by omega), shl1n (by omega), if_pos hrd, w64 (x := (t : Int) + 1) (by omega) (by omega)]
    rfl
theorem chg_l1 {m : Nat} (h1 : 2 ≤ m) (h2 : m ≤ 8) : ∀ d i, 2 ^ m - i = d → i ≤ 2 ^ m → Ev (fun k => neonwrightlaw04_FlashChanges.l1 k (m : Int) (grays i) (i : Int)) true := by
  have hp := pow12 (n := m) (by omega)
  intro d
  induction d with
  | zero =>
    intro i hd hi
    obtain rfl : i = 2 ^ m := by omega
    have hf := grays_fine (n := m) (by omega) (by omega)
    have hcr : changesR (m : Int) (grays (2 ^ m)) = (changesL m (grays (2 ^ m)), 0) := by unfold changesR; rw [if_pos (fine_listed hf), if_pos (grays_path (by omega) (by omega)), Int.toNat_natCast]
    have hc := changes_ev (m : Int) (grays (2 ^ m))
    rw [hcr] at hc
    have hx := gray_changes h1 h2
    have hlen := changesL_len m (grays (2 ^ m))
    have hl2 := chg_l2 h1 h2 _ hx (m - 1) 0 (by omega) (by omega)
    have hw1 : wrap64 ((m : Int) - 1) = ((m - 1 : Nat) : Int) := by rw [w64 (by omega) (by omega)]; omega
    have hw2 : wrap64 ((m : Int) - 2) = ((m - 2 : Nat) : Int) := by rw [w64 (by omega) (by omega)]; omega
    generalize changesL m (grays (2 ^ m)) = x at hc hx hlen hl2
    have r1 : rd x ((m - 1 : Nat) : Int) = 2 := by
      rw [rd_get x (m - 1) (by omega)]
      subst hx
      rw [List.getElem_append_right (by rw [List.length_map, List.length_range]; omega)]
      simp
    have r2 : rd x ((m - 2 : Nat) : Int) = 2 := by
      rw [rd_get x (m - 2) (by omega)]
      subst hx
      rw [List.getElem_append_left (by rw [List.length_map, List.length_range]; omega), List.getElem_map, List.getElem_range, show m - 1 - (m - 2) = 1 from by omega]
      rfl
    refine Ev.step (f := fun k => (flash_Changes.f k (m : Int) (grays (2 ^ m))).bind fun bt489 => (if bt489.2 = 0 then (if (bt489.1.length : Int) = (m : Int) then (if 0 ≤ (wrap64 ((m : Int) - 1)) then (if (wrap64 ((m : Int) - 1)) < (bt489.1.length : Int) then (if 0 ≤ (wrap64 ((m : Int) - 2)) then (if (wrap64 ((m : Int) - 2)) < (bt489.1.length : Int) then (neonwrightlaw04_FlashChanges.j4 k (m : Int) bt489.1 ((rd bt489.1 (wrap64 ((m : Int) - 1))) != (rd bt489.1 (wrap64 ((m : Int) - 2))))) else (none)) else (none)) else (none)) else (none)) else (neonwrightlaw04_FlashChanges.j4 k (m : Int) bt489.1 true)) else (neonwrightlaw04_FlashChanges.j4 k (m : Int) bt489.1 true))) (fun k => ?_) (Ev.bnd hc (Ev.pos rfl (Ev.pos (by rw [hlen]) (Ev.pos (by rw [hw1]; omega) (Ev.pos (by rw [hw1]; show ((m - 1 : Nat) : Int) < (x.length : Int); omega) (Ev.pos (by rw [hw2]; omega) (Ev.pos (by rw [hw2]; show ((m - 2 : Nat) : Int) < (x.length : Int); omega) ?_)))))))
    · simp only [neonwrightlaw04_FlashChanges.l1]
      rw [if_pos (by omega), shl1n (by omega), if_neg (by omega)]
    · rw [hw1, hw2, r1, r2, bne_self_eq_false]
      refine Ev.step (f := fun k => neonwrightlaw04_FlashChanges.l2 k (m : Int) x ((0 : Nat) : Int)) (fun k => ?_) hl2
      simp only [neonwrightlaw04_FlashChanges.j4]
      rfl
  | succ d ih =>
    intro i hd hi
    have hil : i < 2 ^ m := by omega
    have hnext := ih (i + 1) (by omega) (by omega)
    rw [grays_succ] at hnext
    have hin : inTubes (m : Int) (i : Int) = true := decide_eq_true ⟨⟨by omega, by omega⟩, by omega, by rw [Int.toNat_natCast]; omega⟩
    have hg : grayR (m : Int) (i : Int) = ((gray i : Int), 0) := by unfold grayR; rw [if_pos hin, Int.toNat_natCast]
    refine Ev.step (f := fun k => neonwrightlaw04_FlashChanges.l1 k (m : Int) (grays i ++ [(gray i : Int)]) ((i + 1 : Nat) : Int)) (fun k => ?_) hnext
    simp only [neonwrightlaw04_FlashChanges.l1]
    rw [if_pos (by omega), shl1n (by omega), if_pos (by omega), gray_f, hg, Option.bind_some, if_pos (by rw [grays_len]; omega), w64 (x := (i : Int) + 1) (by omega) (by omega)]
    rfl
theorem chg_j2 (a : Nat) (ha : a ≤ 255) : Ev (fun k => neonwrightlaw04_FlashChanges.j2 k (a : Int) false) true := by
  have e1 : wrap64 (Int.tmod (a : Int) 7) = ((a % 7 : Nat) : Int) := by rw [show (7 : Int) = ((7 : Nat) : Int) from rfl, tmodn, w64n _ (by omega)]
  have e2 : wrap64 (2 + ((a % 7 : Nat) : Int)) = ((2 + a % 7 : Nat) : Int) := by rw [w64 (by omega) (by omega)]; rfl
  have h := chg_l1 (m := 2 + a % 7) (by omega) (by omega) (2 ^ (2 + a % 7)) 0 (Nat.sub_zero _) (Nat.zero_le _)
  refine Ev.step (f := fun k => neonwrightlaw04_FlashChanges.l1 k ((2 + a % 7 : Nat) : Int) (grays 0) ((0 : Nat) : Int)) (fun k => ?_) h
  simp only [neonwrightlaw04_FlashChanges.j2]
  rw [if_neg (by decide), e1, e2]
  rfl
theorem sum_drop {x : List Int} {i : Nat} (hi : i < x.length) : sumL (x.drop i) = rd x (i : Int) + sumL (x.drop (i + 1)) := by
  rw [List.drop_eq_getElem_cons hi, rd_get x i hi]
  rfl
theorem chg_sum (n : Int) (l : List Int) (a : Nat) (p c : Bool) (x : List Int) (hx : x.length ≤ 12) (hup : upto x 5000) (hev : c = true → ∀ t : Nat, rd x (t : Int) % 2 = 0) (hcp : c = true → p = true)
    (hfin : p = true → (x.length : Int) = n ∧ sumL x = if c = true then (l.length : Int) else wrap64 ((l.length : Int) - 1)) (ha : a ≤ 255) :
    ∀ (d i : Nat) (s : Int), x.length - i = d → i ≤ x.length → 0 ≤ s → s ≤ 5000 * (i : Int) → s + sumL (x.drop i) = sumL x → Ev (fun k => neonwrightlaw04_FlashChanges.l0 k n l (a : Int) p c x s (i : Int)) true := by
  intro d
  induction d with
  | zero =>
    intro i s hd hi h0 h1 hs
    rw [List.drop_of_length_le (by omega), show sumL [] = 0 from rfl, Int.add_zero] at hs
    refine Ev.step (f := fun k => neonwrightlaw04_FlashChanges.j2 k (a : Int) false) (fun k => ?_) (chg_j2 a ha)
    simp only [neonwrightlaw04_FlashChanges.l0]
    rw [if_neg (by omega)]
    cases p with
    | false => rw [if_neg (by decide)]
    | true =>
      obtain ⟨f1, f2⟩ := hfin rfl
      rw [if_pos (by trivial), if_pos f1]
      cases c with
      | true =>
        rw [if_pos rfl] at f2
        rw [if_pos (by trivial), hs, f2, bne_self_eq_false]
      | false =>
        rw [if_neg (by decide)] at f2
        rw [if_neg (by decide), if_pos (by rw [hs, f2])]
  | succ d ih =>
    intro i s hd hi h0 h1 hs
    have hil : i < x.length := by omega
    have hb := upto_rd hup i
    rw [sum_drop hil] at hs
    have hnext := ih (i + 1) (s + rd x (i : Int)) (by omega) (by omega) (by omega) (by omega) (by omega)
    refine Ev.step (f := fun k => neonwrightlaw04_FlashChanges.l0 k n l (a : Int) p c x (s + rd x (i : Int)) ((i + 1 : Nat) : Int)) (fun k => ?_) hnext
    simp only [neonwrightlaw04_FlashChanges.l0]
    rw [if_pos (by omega), if_pos (by omega), w64 (x := s + rd x (i : Int)) (by omega) (by omega), w64 (x := (i : Int) + 1) (by omega) (by omega)]
    cases c with
    | true =>
      have he := hev rfl i
      have hm : Int.tmod (rd x (i : Int)) 2 = 0 := by
        rw [Int.tmod_eq_emod_of_nonneg hb.1]
        exact he
      rw [if_pos (by trivial), if_pos hm]
      rfl
    | false =>
      rw [if_neg (by decide)]
      rfl
theorem FlashChanges : neonwrightlaw04_FlashChanges.Pure := by
  intro n l a _ _ _ _ ha
  have ha := castu8 ha
  obtain ⟨a, rfl⟩ : ∃ m : Nat, a = m := ⟨a.toNat, by omega⟩
  refine Ev.rounds (g := fun k => neonwrightlaw04_FlashChanges.f k n l (a : Int)) ?_
  by_cases h : (l.length : Int) ≤ 600
  · refine Ev.congr (f := fun k => ((flash_Changes.f k n l).bind fun bt478 => (if (pathR n l).2.2 = 0 then (if ((pathR n l).1 != (bt478.2 == 0)) = true then (neonwrightlaw04_FlashChanges.j0 k n l (a : Int) (pathR n l).1 (pathR n l).2.1 bt478.1 true) else (neonwrightlaw04_FlashChanges.j0 k n l (a : Int) (pathR n l).1 (pathR n l).2.1 bt478.1 false)) else (neonwrightlaw04_FlashChanges.j0 k n l (a : Int) (pathR n l).1 (pathR n l).2.1 bt478.1 (bt478.2 != (pathR n l).2.2))))) (fun k => ?_) (Ev.bnd (changes_ev n l) ?_)
    · show neonwrightlaw04_FlashChanges.f k n l (a : Int) = _
      unfold neonwrightlaw04_FlashChanges.f neonwrightlaw04_few.f
      rw [decide_eq_true h, Option.bind_some, if_pos rfl, path_f, Option.bind_some]
    · have j0 : ∀ (p c : Bool) (x : List Int), x.length ≤ 12 → upto x 5000 → (c = true → ∀ t : Nat, rd x (t : Int) % 2 = 0) → (c = true → p = true) → (p = true → (x.length : Int) = n ∧ sumL x = if c = true then (l.length : Int) else wrap64 ((l.length : Int) - 1)) →
          Ev (fun k => neonwrightlaw04_FlashChanges.j0 k n l (a : Int) p c x false) true := by
        intro p c x h1 h2 h3 h4 h5
        have h6 := chg_sum n l a p c x h1 h2 h3 h4 h5 (by omega) x.length 0 0 (by omega) (by omega) (by omega) (by omega) (by rw [List.drop_zero]; omega)
        refine Ev.step (f := fun k => neonwrightlaw04_FlashChanges.l0 k n l (a : Int) p c x 0 ((0 : Nat) : Int)) (fun k => ?_) h6
        simp only [neonwrightlaw04_FlashChanges.j0]
        rfl
      unfold pathR changesR
      by_cases hz : listedN n l = 0
      · obtain ⟨m, rfl, hf⟩ := listedN_fine hz
        have hn2 := hf.n2
        have hle := hf.le
        have hpos := hf.pos
        rw [if_pos hz, if_pos hz, Int.toNat_natCast]
        refine Ev.pos rfl ?_
        cases hp : pathB l with
        | false =>
          refine Ev.neg (by simp) ?_
          exact j0 false (false && closedB l) [] (by simp) (fun x hx => absurd hx (by simp)) (fun e => by simp at e) (fun e => by simp at e) (fun e => by cases e)
        | true =>
          rw [if_pos rfl]
          refine Ev.neg (by simp) ?_
          refine j0 true (true && closedB l) _ (by rw [changesL_len]; omega) (changesL_upto hf) (fun e t => changes_even hf hp (by simpa using e) t) (fun _ => rfl) (fun _ => ⟨by rw [changesL_len], ?_⟩)
          rw [sum_changes hf hp, Bool.true_and, w64 (by omega) (by omega)]
      · rw [if_neg hz, if_neg hz]
        refine Ev.neg hz ?_
        simp only [bne_self_eq_false]
        exact j0 false false [] (by simp) (fun x hx => absurd hx (by simp)) (fun e => by cases e) (fun e => by cases e) (fun e => by cases e)
  · refine Ev.congr (f := fun k => (neonwrightlaw04_alive.f k).bind fun t474 => (some t474)) (fun k => ?_) (Ev.bnd alive_ev (Ev.now true))
    show neonwrightlaw04_FlashChanges.f k n l (a : Int) = _
    unfold neonwrightlaw04_FlashChanges.f neonwrightlaw04_few.f
    rw [decide_eq_false h, Option.bind_some, if_neg (by decide)]
end Go.Proofs.Ytnakkdaeehglnaa.Pure
