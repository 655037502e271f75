/- Texts of this claim, merged by a program (shake.py): what the last theorems reach of RFew, RApR, PureGateFewest. -/
import Derived.Test.YtelfalicickelaaKGateFewest9
import Derived.Test.YtelfalicickelaaKGateFewest5
import Derived.Test.YtelfalicickelaaKGateFewest7
import Derived.Test.YtelfalicickelaaKGateFewest8
set_option linter.unusedSimpArgs false
set_option linter.unusedVariables false
namespace Go.Proofs.Ytelfalicickelaa.P
open Go.Lib Go.RowKit Go.Proofs.YtelfalicickelaaW.PrintWords Go.Proofs.YtelfalicickelaaW.PrintLast Go.Proofs.YtelfalicickelaaW.PrintMore Go.Proofs.Ytelfalicickelaa.Kit
noncomputable def covC (V v : Nat) (S : List Nat) (m : Nat) : Bool := @decide (GT.Cov (fun u => v ≤ u ∧ u < V) S m) (Classical.propDecidable _)
theorem covC_iff {V v : Nat} {S : List Nat} {m : Nat} : covC V v S m = true ↔ GT.Cov (fun u => v ≤ u ∧ u < V) S m := by
  unfold covC
  exact @decide_eq_true_iff _ (Classical.propDecidable _)
theorem firsts_congr {can can' : Nat → List Nat → Nat → Bool} {V : Nat} (h1 : ∀ v S m, v ≤ V → (can v S m = true ↔ GT.Cov (fun u => v ≤ u ∧ u < V) S m)) (h2 : ∀ v S m, v ≤ V → (can' v S m = true ↔ GT.Cov (fun u => v ≤ u ∧ u < V) S m)) :
    ∀ (d v : Nat) (S T : List Nat) (m : Nat), V - v = d → v ≤ V → GT.Same S T → GT.firsts can d v S m = GT.firsts can' d v T m := by
  intro d
  induction d with
  | zero => intro v S T m hd hv hs; rfl
  | succ d ih =>
    intro v S T m hd hv hs
    cases m with
    | zero => rfl
    | succ m =>
      unfold GT.firsts
      have hc : can (v + 1) (GT.without S v) m = can' (v + 1) (GT.without T v) m := by
        rw [Bool.eq_iff_iff, h1 _ _ _ (by omega), h2 _ _ _ (by omega), (hs.without v).cov]
      rw [hc, ih (v + 1) (GT.without S v) (GT.without T v) m (by omega) (by omega) (hs.without v), ih (v + 1) S T (m + 1) (by omega) (by omega) hs]
theorem Least_congr {V v m : Nat} {S T : List Nat} (hs : GT.Same S T) (h : GT.Least V v S m) : GT.Least V v T m := ⟨(hs.cov _ _).1 h.1, fun k hk => h.2 k ((hs.cov _ _).2 hk)⟩
theorem few_l1 (c : GT.C) (V : Nat) (hV : V = 2 ^ c.n) (hV64 : V ≤ 64) (hsh : ∀ v, shN c v < 17592186044416) : ∀ (d v s m k : Nat) (acc : List Int), V - v = d → v ≤ V → InL c s → m ≤ 100 → acc.length ≤ v → GT.Least V v (setW c s) m → 600000 + d ≤ k →
    neonwrightref07_Fewest.l1 k (nI ((List.range V).map (shN c))) (s : Int) (m : Int) acc (v : Int) = some (acc ++ nI (GT.firsts (covC V) d v (setW c s) m), 0) := by
  have hnl : (nI ((List.range V).map (shN c))).length = V := by simp [nI]
  intro d
  induction d with
  | zero =>
    intro v s m k acc hd hv hs hm ha hL hk
    obtain ⟨k, rfl⟩ : ∃ q, k = q + 1 := ⟨k - 1, by omega⟩
    have hm0 := hL.last (by omega)
    rw [hm0, neonwrightref07_Fewest.l1, if_neg (by decide)]
    simp [GT.firsts, nI]
  | succ d ih =>
    intro v s m k acc hd hv hs hm ha hL hk
    obtain ⟨k, rfl⟩ : ∃ q, k = q + 1 := ⟨k - 1, by omega⟩
    cases m with
    | zero =>
      rw [neonwrightref07_Fewest.l1, if_neg (by decide)]
      simp [GT.firsts, nI]
    | succ m =>
      have hvV : v < V := by omega
      have hv2 : v < 2 ^ c.n := by rw [← hV]; exact hvV
      have hw : ∀ _ : Unit, wrap64 ((v : Int) + 1) = ((v + 1 : Nat) : Int) := fun _ => by rw [w64 (by omega) (by omega)]; omega
      have hwm : ∀ _ : Unit, wrap64 (((m + 1 : Nat) : Int) - 1) = (m : Int) := fun _ => by rw [w64 (by omega) (by omega)]; omega
      have hrd : rd (nI ((List.range V).map (shN c))) (v : Int) = ((shN c v : Nat) : Int) := by
        rw [nI_rdr (by simpa using hvV)]; simp
      have hsv := hsh v
      have hs1 := hs.1
      obtain ⟨r, e, i⟩ := rcan_f c V hV hV64 hsh (v + 1) (by omega) m (andn s (shN c v)) k hs.andn (by omega) (by omega)
      have hwo := setW_without hs hv2
      rw [hwo.cov, ← hV] at i
      rw [neonwrightref07_Fewest.l1, if_pos (by omega), if_pos (by omega), if_pos (by omega), hrd, andn64 s (shN c v) (by omega) (by omega), hw (), hwm (), e, Option.bind_some, GT.firsts]
      have hc : covC V (v + 1) (GT.without (setW c s) v) m = r := by rw [Bool.eq_iff_iff, covC_iff]; exact i.symm
      rw [hc]
      cases r with
      | true =>
        rw [if_pos rfl, if_pos rfl, if_pos (by omega)]
        have hL2 := hL.take hvV (i.1 rfl)
        rw [ih (v + 1) (andn s (shN c v)) m k (acc ++ [(v : Int)]) (by omega) (by omega) hs.andn (by omega) (by rw [List.length_append, List.length_singleton]; omega) (Least_congr (fun vs => (hwo vs).symm) hL2) (by omega)]
        rw [firsts_congr (can := covC V) (can' := covC V) (V := V) (fun v S m _ => covC_iff) (fun v S m _ => covC_iff) d (v + 1) _ _ m (by omega) (by omega) hwo]
        simp [nI]
      | false =>
        rw [if_neg (by decide), if_neg (by decide)]
        have hL2 := hL.skip (fun h => by have := i.2 h; cases this)
        exact ih (v + 1) s (m + 1) k acc (by omega) (by omega) hs hm (by omega) hL2 (by omega)
theorem few_l0 (c : GT.C) (V : Nat) (hV : V = 2 ^ c.n) (hV64 : V ≤ 64) (hsh : ∀ v, shN c v < 17592186044416) (s : Nat) (hs : InL c s) (M : Nat) (hM : M ≤ 44) (hL : GT.Least V 0 (setW c s) M) : ∀ (d m k : Nat), M - m = d → m ≤ M → 700000 + d ≤ k →
    neonwrightref07_Fewest.l0 k (nI ((List.range V).map (shN c))) (s : Int) (m : Int) = some (nI (GT.firsts (covC V) V 0 (setW c s) M), 0) := by
  intro d
  induction d with
  | zero =>
    intro m k hd hm hk
    obtain ⟨k, rfl⟩ : ∃ q, k = q + 1 := ⟨k - 1, by omega⟩
    obtain rfl : m = M := by omega
    obtain ⟨r, e, i⟩ := rcan_f c V hV hV64 hsh 0 (by omega) m s k hs (by omega) (by omega)
    rw [← hV] at i
    have hr : r = true := i.2 hL.1
    rw [show ((0 : Nat) : Int) = 0 from rfl] at e
    rw [neonwrightref07_Fewest.l0, e, Option.bind_some, hr, if_pos rfl]
    have := few_l1 c V hV hV64 hsh V 0 s m k [] (by omega) (by omega) hs (by omega) (by simp) hL (by omega)
    rw [List.nil_append] at this
    exact this
  | succ d ih =>
    intro m k hd hm hk
    obtain ⟨k, rfl⟩ : ∃ q, k = q + 1 := ⟨k - 1, by omega⟩
    have hw : ∀ _ : Unit, wrap64 ((m : Int) + 1) = ((m + 1 : Nat) : Int) := fun _ => by rw [w64 (by omega) (by omega)]; omega
    obtain ⟨r, e, i⟩ := rcan_f c V hV hV64 hsh 0 (by omega) m s k hs (by omega) (by omega)
    rw [← hV] at i
    have hr : r = false := by
      cases r with
      | false => rfl
      | true =>
        have := hL.2 m (i.1 rfl)
        omega
    rw [show ((0 : Nat) : Int) = 0 from rfl] at e
    rw [neonwrightref07_Fewest.l0, e, Option.bind_some, hr, if_neg (by decide), hw ()]
    exact ih (m + 1) k (by omega) (by omega) (by omega)
theorem anyN_bit (c : GT.C) (f : Nat) : (anyN c (2 ^ c.n)).testBit f = (decide (f < 2 * GT.lines c) && (GT.shows c f != 0)) := by
  unfold anyN
  rw [num_range_bit, anyP_shows]
theorem any_InL (N : Nat) (ls : List S40) (os : List Int) (hok : okC (N : Int) ls os = true) : InL (toC N ls os) (anyN (toC N ls os) (2 ^ N)) :=
  ⟨anyN_lt N ls os hok _, fun f hf => by
    rw [show (2 : Nat) ^ N = 2 ^ (toC N ls os).n from rfl, anyN_bit, Bool.and_eq_true] at hf
    exact of_decide_eq_true hf.1⟩
theorem setW_any (N : Nat) (ls : List S40) (os : List Int) (hok : okC (N : Int) ls os = true) : GT.Same (setW (toC N ls os) (anyN (toC N ls os) (2 ^ N))) (shownW (toC N ls os)) := by
  refine same_of_mem fun w => ?_
  rw [mem_setW (any_InL N ls os hok).1]
  unfold shownW shownF
  rw [List.mem_map]
  constructor
  · rintro ⟨f, h, rfl⟩
    rw [show (2 : Nat) ^ N = 2 ^ (toC N ls os).n from rfl, anyN_bit, Bool.and_eq_true] at h
    exact ⟨f, mem_whereN.2 ⟨of_decide_eq_true h.1, h.2⟩, rfl⟩
  · rintro ⟨f, h, rfl⟩
    have h2 := mem_whereN.1 h
    refine ⟨f, ?_, rfl⟩
    rw [show (2 : Nat) ^ N = 2 ^ (toC N ls os).n from rfl, anyN_bit, decide_eq_true h2.1, Bool.true_and]
    exact h2.2
theorem fewL_len (N : Nat) (ls : List S40) (os : List Int) (hok : okC (N : Int) ls os = true) : (fewL (toC N ls os)).length ≤ 44 := by
  unfold fewL
  refine Nat.le_trans (leanN_len _) ?_
  unfold shownW shownF
  rw [List.length_map]
  exact whereN_len N ls os hok _
theorem rFewest_f (n : Int) (ls : List S40) (os : List Int) (k : Nat) (hk : 800000 ≤ k) : neonwrightref07_Fewest.f k n ls os = gate_Fewest.f n ls os := by
  unfold neonwrightref07_Fewest.f gate_Fewest.f
  rw [rCircuit_f n ls os k (by omega), Option.bind_some]
  by_cases h : okC n ls os = true
  · obtain ⟨N, rfl⟩ := okC_nat h
    have hs := okC_small h
    have hp := pow6 (N := N) (by omega)
    have hS : GT.Same (setW (toC N ls os) (anyN (toC N ls os) (2 ^ N))) (fewL (toC N ls os)) := by
      have h1 := setW_any N ls os h
      have h2 := lean_same (shownW (toC N ls os))
      exact fun vs => (h1 vs).trans (h2 vs).symm
    obtain ⟨q1, q2, q3, q4⟩ := few_spec (V := 2 ^ N) hp (S := fewL (toC N ls os)) (fewL_ok (toC N ls os)) (fewL_len N ls os h)
    have hL := Least_congr (fun vs => (hS vs).symm) q4
    have e := few_l0 (toC N ls os) (2 ^ N) rfl hp (fun v => shN_lt N ls os h v) _ (any_InL N ls os h) (fewM (2 ^ N) (fewL (toC N ls os))) q3 hL (fewM (2 ^ N) (fewL (toC N ls os))) 0 k (Nat.sub_zero _) (Nat.zero_le _) (by omega)
    rw [if_pos h, rall_f N ls os h k (by omega), Option.bind_some, if_pos h, Int.toNat_natCast]
    refine e.trans ?_
    have e2 := firsts_congr (can := covC (2 ^ N)) (can' := canA (2 ^ N)) (V := 2 ^ N) (fun v S m _ => covC_iff) (fun v S m _ => canA_iff hp v S m) (2 ^ N) 0 _ _ (fewM (2 ^ N) (fewL (toC N ls os))) (Nat.sub_zero _) (Nat.zero_le _) hS
    rw [e2]
    rfl
  · rw [if_neg h, if_neg h]
end Go.Proofs.Ytelfalicickelaa.P
set_option linter.unusedSimpArgs false
set_option linter.unusedVariables false
namespace Go.Proofs.Ytelfalicickelaa.P
open Go.Lib Go.RowKit Go.Proofs.YtelfalicickelaaW.PrintWords Go.Proofs.YtelfalicickelaaW.PrintLast Go.Proofs.YtelfalicickelaaW.PrintMore Go.Proofs.Ytelfalicickelaa.Kit
def orP (c : GT.C) (v f h : Nat) : Bool := (List.range v).any fun u => shP c u f && shP c u h
def orN (c : GT.C) (v f : Nat) : Nat := GT.num ((List.range (2 * GT.lines c)).map (orP c v f))
def agN (c : GT.C) (f : Nat) : Nat := andn (orN c (2 ^ c.n) f) (2 ^ f)
def rowsR (c : GT.C) : List Nat := (List.range (2 * GT.lines c)).map (agN c)
theorem orN_bit (c : GT.C) (v f h : Nat) : (orN c v f).testBit h = (decide (h < 2 * GT.lines c) && orP c v f h) := num_range_bit _ _ _
theorem orN_lt {c : GT.C} (hM : 2 * GT.lines c ≤ 44) (v f : Nat) : orN c v f < 17592186044416 := Nat.lt_of_lt_of_le (num_range_lt _ _) (pow44 hM)
theorem orN_zero (c : GT.C) (f : Nat) : orN c 0 f = 0 := Nat.eq_of_testBit_eq fun i => by rw [orN_bit]; simp [orP]
theorem orN_succ (c : GT.C) (v f : Nat) : orN c (v + 1) f = if shP c v f = true then orN c v f ||| shN c v else orN c v f := by
  refine Nat.eq_of_testBit_eq fun i => ?_
  have e : orP c (v + 1) f i = (orP c v f i || (shP c v f && shP c v i)) := by
    unfold orP
    rw [List.range_succ, List.any_append]
    simp
  rw [orN_bit, e]
  cases h : shP c v f with
  | true =>
    rw [if_pos rfl, Nat.testBit_or, orN_bit, shN_bit, Bool.true_and]
    cases decide (i < 2 * GT.lines c) <;> simp
  | false =>
    rw [if_neg (by decide), orN_bit, Bool.false_and, Bool.or_false]
theorem apr_l1 (c : GT.C) (N : Int) (ls : List S40) (os : List Int) (V : Nat) (hV64 : V ≤ 64) (hM : 2 * GT.lines c ≤ 44) (hsh : ∀ v, shN c v < 17592186044416) (s : Nat) (f : Nat) (hf : f < 2 * GT.lines c) (acc : List Int) (ha : acc.length ≤ 100) (hV : V = 2 ^ c.n) : ∀ (d v k : Nat), V - v = d → v ≤ V →
    neonwrightref07_Apart.l1 (k + d + 1) (nI ((List.range V).map (shN c))) (s : Int) acc (f : Int) ((orN c v f : Nat) : Int) (v : Int) N ls os = neonwrightref07_Apart.l0 k (nI ((List.range V).map (shN c))) (s : Int) (acc ++ [((agN c f : Nat) : Int)]) ((f + 1 : Nat) : Int) N ls os := by
  have hnl : (nI ((List.range V).map (shN c))).length = V := by simp [nI]
  have hp := pow44lt (i := f) (by omega)
  intro d
  induction d with
  | zero =>
    intro v k hd hv
    have hw : ∀ _ : Unit, wrap64 ((f : Int) + 1) = ((f + 1 : Nat) : Int) := fun _ => by rw [w64 (by omega) (by omega)]; omega
    have ho := orN_lt hM v f
    rw [Nat.add_zero, neonwrightref07_Apart.l1, if_neg (by omega), if_pos (by omega), if_pos (by omega), shl1n (by omega), andn64 _ _ (by omega) (by omega), hw (), show v = 2 ^ c.n by omega]
    rfl
  | succ d ih =>
    intro v k hd hv
    have hvV : v < V := by omega
    have hw : ∀ _ : Unit, wrap64 ((v : Int) + 1) = ((v + 1 : Nat) : Int) := fun _ => by rw [w64 (by omega) (by omega)]; omega
    have hrd : rd (nI ((List.range V).map (shN c))) (v : Int) = ((shN c v : Nat) : Int) := by
      rw [nI_rdr (by simpa using hvV)]; simp
    have hsv := hsh v
    have ho := orN_lt hM v f
    have h1 := ih (v + 1) k (by omega) (by omega)
    rw [orN_succ] at h1
    rw [show k + (d + 1) + 1 = (k + d + 1) + 1 from rfl, neonwrightref07_Apart.l1, if_pos (by omega), if_pos (by omega), if_pos (by omega), hrd, shrt _ f (by omega), shN_bit, decide_eq_true hf, Bool.true_and, hw (), or64 _ _ (by omega) (by omega)]
    cases hb : shP c v f with
    | true =>
      rw [hb, if_pos rfl] at h1
      rw [if_pos (show ((true.toNat : Nat) : Int) = 1 from rfl)]
      exact h1
    | false =>
      rw [hb, if_neg (by decide)] at h1
      rw [if_neg (show ¬ ((false.toNat : Nat) : Int) = 1 by decide)]
      exact h1
theorem apr_l0 (N : Nat) (ls : List S40) (os : List Int) (hok : okC (N : Int) ls os = true) (s : Nat) : ∀ (d f k K : Nat), 2 * (N + ls.length) - f = d → f ≤ 2 * (N + ls.length) → K + 70 * d ≤ k →
    ∃ k', K ≤ k' ∧ neonwrightref07_Apart.l0 k (nI ((List.range (2 ^ N)).map (shN (toC N ls os)))) (s : Int) (nI ((List.range f).map (agN (toC N ls os)))) (f : Int) (N : Int) ls os =
      neonwrightref07_Apart.l0 k' (nI ((List.range (2 ^ N)).map (shN (toC N ls os)))) (s : Int) (nI (rowsR (toC N ls os))) ((2 * (N + ls.length) : Nat) : Int) (N : Int) ls os := by
  have hs := okC_small hok
  have hp := pow6 (N := N) (by omega)
  have hM : 2 * GT.lines (toC N ls os) ≤ 44 := by rw [toC_lines]; omega
  intro d
  induction d with
  | zero =>
    intro f k K hd hf hk
    refine ⟨k, by omega, ?_⟩
    unfold rowsR
    rw [toC_lines, show f = 2 * (N + ls.length) by omega]
  | succ d ih =>
    intro f k K hd hf hk
    obtain ⟨k, rfl⟩ : ∃ q, k = q + 1 := ⟨k - 1, by omega⟩
    obtain ⟨z, hz⟩ : ∃ z, 2 ^ N = z := ⟨_, rfl⟩
    rw [hz] at hp ih ⊢
    obtain ⟨k2, rfl⟩ : ∃ q, k = q + z + 1 := ⟨k - z - 1, by omega⟩
    have e := apr_l1 (toC N ls os) (N : Int) ls os z hp hM (fun v => shN_lt N ls os hok v) s f (by rw [toC_lines]; omega) (nI ((List.range f).map (agN (toC N ls os)))) (by simp [nI]; omega) hz.symm z 0 k2 (Nat.sub_zero _) (Nat.zero_le _)
    rw [orN_zero, show ((0 : Nat) : Int) = 0 from rfl] at e
    obtain ⟨k', h1, h2⟩ := ih (f + 1) k2 K (by omega) (by omega) (by omega)
    refine ⟨k', h1, ?_⟩
    rw [neonwrightref07_Apart.l0, lines_f N (by omega) ls (by omega), Option.bind_some, w64 (x := 2 * ((N + ls.length : Nat) : Int)) (by omega) (by omega), if_pos (by omega), e]
    rw [List.range_succ, List.map_append] at h2
    unfold nI at h2 ⊢
    rw [List.map_append] at h2
    exact h2
theorem orP_iff {c : GT.C} {f h : Nat} : orP c (2 ^ c.n) f h = true ↔ ∃ v, (GT.shows c f).testBit v = true ∧ (GT.shows c h).testBit v = true := by
  unfold orP
  rw [List.any_eq_true]
  constructor
  · rintro ⟨u, hu, h2⟩
    have hu' := List.mem_range.1 hu
    rw [Bool.and_eq_true, shP_bit hu', shP_bit hu'] at h2
    exact ⟨u, h2⟩
  · rintro ⟨v, h1, h2⟩
    have hv : v < 2 ^ c.n := by
      rw [shows_bit, Bool.and_eq_true] at h1
      exact of_decide_eq_true h1.1
    exact ⟨v, List.mem_range.2 hv, by rw [Bool.and_eq_true, shP_bit hv, shP_bit hv]; exact ⟨h1, h2⟩⟩
theorem adj_rowsR (c : GT.C) (x y : Nat) : adjB (rowsR c) x y = true ↔ x < 2 * GT.lines c ∧ y < 2 * GT.lines c ∧ x ≠ y ∧ ∃ v, (GT.shows c x).testBit v = true ∧ (GT.shows c y).testBit v = true := by
  unfold adjB rowsR
  rw [List.getD_eq_getElem?_getD, List.getElem?_map]
  by_cases h : x < 2 * GT.lines c
  · rw [List.getElem?_eq_getElem (by simpa using h)]
    simp only [List.getElem_range, Option.map_some, Option.getD_some]
    unfold agN
    rw [testBit_andn, pow_bit, orN_bit, Bool.and_eq_true, Bool.and_eq_true, orP_iff, decide_eq_true_iff]
    constructor
    · rintro ⟨⟨h1, h2⟩, h3⟩
      exact ⟨h, h1, by simpa using h3, h2⟩
    · rintro ⟨_, h1, h2, h3⟩
      exact ⟨⟨h1, h3⟩, by simpa using h2⟩
  · rw [List.getElem?_eq_none (by simp; omega)]
    simp only [Option.map_none, Option.getD_none, Nat.zero_testBit]
    constructor
    · intro h2; cases h2
    · exact fun h2 => absurd h2.1 h
theorem GOk_rowsR {c : GT.C} (hM : 2 * GT.lines c ≤ 44) : GOk (rowsR c) := by
  refine ⟨by simp [rowsR]; exact hM, fun x => ?_, fun x y => ?_, fun x => ?_⟩
  · unfold rowsR
    rw [List.getD_eq_getElem?_getD, List.getElem?_map]
    by_cases h : x < 2 * GT.lines c
    · rw [List.getElem?_eq_getElem (by simpa using h)]
      simp only [List.getElem_range, Option.map_some, Option.getD_some]
      exact andn_le44 (orN_lt hM _ _)
    · rw [List.getElem?_eq_none (by simp; omega)]
      simp
  · rw [Bool.eq_iff_iff, adj_rowsR, adj_rowsR]
    constructor
    · rintro ⟨h1, h2, h3, v, h4, h5⟩
      exact ⟨h2, h1, fun e => h3 e.symm, v, h5, h4⟩
    · rintro ⟨h1, h2, h3, v, h4, h5⟩
      exact ⟨h2, h1, fun e => h3 e.symm, v, h5, h4⟩
  · cases h : adjB (rowsR c) x x with
    | false => rfl
    | true => exact absurd rfl ((adj_rowsR c x x).1 h).2.2.1
theorem apr_l2 (A : List Nat) (hA : GOk A) (s0m : Nat) : ∀ (d f s m k : Nat) (acc : List Int) (S : Nat → Prop), 62 - f = d → f ≤ 62 → m ≤ 62 → s < 17592186044416 → (∀ x, s.testBit x = true → x < A.length) → (∀ x, S x → x < 44) →
    (∀ x, bitS s x ↔ (S x ∧ f ≤ x)) → GT.Al (adjB A) S m → (∀ b, b < f → S b → ∀ m', m = m' + 1 → ¬ GT.Al (adjB A) (GT.past (adjB A) S b) m') → 13000 + d + 1 ≤ k → acc.length ≤ f →
    ∃ L, GT.First (adjB A) m S L ∧ neonwrightref07_Apart.l2 k (s : Int) (nI A) (m : Int) acc (f : Int) = some (acc ++ nI L, 0) := by
  have hgl : (nI A).length = A.length := by simp [nI]
  intro d
  induction d with
  | zero =>
    intro f s m k acc S hd hf hm hs hsl hS hb hal hno hk ha
    obtain ⟨k, rfl⟩ : ∃ q, k = q + 1 := ⟨k - 1, by clear hno; omega⟩
    cases m with
    | zero =>
      refine ⟨[], rfl, ?_⟩
      rw [neonwrightref07_Apart.l2, if_neg (by decide)]
      simp [nI]
    | succ m =>
      exfalso
      obtain ⟨c, hc1, hc2⟩ := hal.first hA.sym
      have := hS c hc1
      exact hno c (by clear hno; omega) hc1 m rfl hc2
  | succ d ih =>
    intro f s m k acc S hd hf hm hs hsl hS hb hal hno hk ha
    obtain ⟨k, rfl⟩ : ∃ q, k = q + 1 := ⟨k - 1, by clear hno; omega⟩
    cases m with
    | zero =>
      refine ⟨[], rfl, ?_⟩
      rw [neonwrightref07_Apart.l2, if_neg (by decide)]
      simp [nI]
    | succ m =>
      have hw : ∀ _ : Unit, wrap64 ((f : Int) + 1) = ((f + 1 : Nat) : Int) := fun _ => by clear hno; rw [w64 (by omega) (by omega)]; omega
      have hwm : ∀ _ : Unit, wrap64 (((m + 1 : Nat) : Int) - 1) = ((m : Nat) : Int) := fun _ => by clear hno; rw [w64 (by omega) (by omega)]; omega
      have a1 : 62 - (f + 1) = d := by clear hno; omega
      have a2 : f + 1 ≤ 62 := by clear hno; omega
      have a3 : 13000 + d + 1 ≤ k := by clear hno; omega
      have a4 : ((m + 1 : Nat) : Int) > 0 := by clear hno; omega
      have a5 : (0 : Int) ≤ (f : Int) := by clear hno; omega
      have a6 : m ≤ 62 := by clear hno; omega
      have a7 : acc.length ≤ f + 1 := by clear hno; omega
      have a8 : f ≤ 64 := by clear hno; omega
      have a9 : acc.length < 17592186044416 := by clear hno; omega
      rw [neonwrightref07_Apart.l2, if_pos a4, if_pos a5, shrt s f a8, hw (), hwm ()]
      cases hbf : s.testBit f with
      | false =>
        rw [if_pos (show ((false.toNat : Nat) : Int) = 0 from rfl)]
        have hnf : ¬ S f := fun h => by
          have := (hb f).2 ⟨h, Nat.le_refl _⟩
          unfold bitS at this
          rw [hbf] at this
          cases this
        exact ih (f + 1) s (m + 1) k acc S a1 a2 hm hs hsl hS (fun x => by
          rw [hb x]
          constructor
          · rintro ⟨h1, h2⟩
            refine ⟨h1, ?_⟩
            have : x ≠ f := fun e => hnf (e ▸ h1)
            clear hno
            omega
          · rintro ⟨h1, h2⟩
            exact ⟨h1, by clear hno; omega⟩) hal (fun b hb1 hb2 m' hm' => by
          by_cases e : b = f
          · exact absurd (e ▸ hb2) hnf
          · exact hno b (by clear hno; omega) hb2 m' hm') a3 a7
      | true =>
        have hSf := ((hb f).1 hbf).1
        have hfl := hsl f hbf
        have hf44 := bit44 hs hbf
        have hp := pow44lt hf44
        have hgf := hA.lt f
        have ha1 := andn_le44 (y := 2 ^ f) hs
        have ha2 : andn (andn s (2 ^ f)) (A.getD f 0) < 17592186044416 := andn_le44 ha1
        have hpast : ∀ x, bitS (andn (andn s (2 ^ f)) (A.getD f 0)) x ↔ GT.past (adjB A) S f x := fun x => by
          have e : bitS (andn (andn s (2 ^ f)) (A.getD f 0)) x ↔ (bitS s x ∧ x ≠ f ∧ adjB A f x = false) := by
            show (andn (andn s (2 ^ f)) (A.getD f 0)).testBit x = true ↔ (s.testBit x = true ∧ x ≠ f ∧ (A.getD f 0).testBit x = false)
            rw [testBit_andn, testBit_andn, pow_bit]
            by_cases h : f = x
            · subst h; simp
            · have h' : ¬ x = f := fun e => h e.symm
              cases s.testBit x <;> cases (A.getD f 0).testBit x <;> simp [h, h']
          rw [e, hb x]
          constructor
          · rintro ⟨⟨h1, h2⟩, h3, h4⟩
            exact ⟨h1, by clear hno; omega, h4⟩
          · rintro ⟨h1, h2, h3⟩
            exact ⟨⟨h1, by clear hno; omega⟩, by clear hno; omega, h3⟩
        have hsub2 : ∀ x, (andn (andn s (2 ^ f)) (A.getD f 0)).testBit x = true → x < A.length := fun x hx => by
          refine hsl x ?_
          rw [testBit_andn, testBit_andn, Bool.and_eq_true, Bool.and_eq_true] at hx
          exact hx.1.1
        obtain ⟨q, eq, aq, lq⟩ := rmost_f A hA 62 _ k szB_le ha2 hsub2 (by clear hno; omega)
        have aq' := aq.congr hpast
        have c1 : (f : Int) < ((nI A).length : Int) := by clear hno; omega
        have c2 : s < 9223372036854775808 := by clear hno; omega
        have c3 : 2 ^ f < 9223372036854775808 := by clear hno; omega
        have c4 : andn s (2 ^ f) < 9223372036854775808 := by clear hno; omega
        have c5 : A.getD f 0 < 9223372036854775808 := by clear hno; omega
        rw [if_neg (show ¬ ((true.toNat : Nat) : Int) = 0 by decide), if_pos c1, shl1n (by clear hno; omega), nI_getD hfl, andn64 s (2 ^ f) c2 c3, andn64 _ (A.getD f 0) c4 c5, eq, Option.bind_some]
        by_cases hqm : q = m
        · subst hqm
          rw [if_pos rfl, if_pos a9]
          obtain ⟨L, f1, f2⟩ := ih (f + 1) (andn (andn s (2 ^ f)) (A.getD f 0)) q k (acc ++ [(f : Int)]) (GT.past (adjB A) S f) a1 a2 a6 ha2 hsub2 (fun x hx => hS x hx.1) (fun x => by
            rw [hpast x]
            constructor
            · exact fun h => ⟨h, h.2.1⟩
            · exact fun h => h.1) aq' (fun b hb1 hb2 => by
            exfalso
            have := hb2.2.1
            clear hno
            omega) a3 (by rw [List.length_append, List.length_singleton]; clear hno; omega)
          refine ⟨f :: L, ⟨f, L, rfl, hSf, aq', fun b hb1 hb2 => hno b hb1 hb2 q rfl, f1⟩, ?_⟩
          rw [f2, List.append_assoc]
          simp [nI]
        · rw [if_neg (by clear hno; omega)]
          exact ih (f + 1) (andn s (2 ^ f)) (m + 1) k acc S a1 a2 hm ha1 (fun x hx => by
            refine hsl x ?_
            rw [testBit_andn, Bool.and_eq_true] at hx
            exact hx.1) hS (fun x => by
            rw [bits_less x, hb x]
            constructor
            · rintro ⟨⟨h1, h2⟩, h3⟩
              exact ⟨h1, by clear hno; omega⟩
            · rintro ⟨h1, h2⟩
              exact ⟨⟨h1, by clear hno; omega⟩, by clear hno; omega⟩) hal (fun b hb1 hb2 m' hm' => by
            by_cases e : b = f
            · have : m' = m := by clear hno; omega
              subst this
              subst e
              exact fun h => hqm (aq'.unique h)
            · exact hno b (by clear hno; omega) hb2 m' hm') a3 a7
theorem rApart_f (n : Int) (ls : List S40) (os : List Int) (k : Nat) (hk : 100000 ≤ k) : neonwrightref07_Apart.f k n ls os = gate_Apart.f n ls os := by
  unfold neonwrightref07_Apart.f
  rw [rCircuit_f n ls os k (by omega), Option.bind_some]
  by_cases h : okC n ls os = true
  · obtain ⟨N, rfl⟩ := okC_nat h
    have hs := okC_small h
    have hM : 2 * GT.lines (toC N ls os) ≤ 44 := by rw [toC_lines]; omega
    have hA := GOk_rowsR hM
    have hin := any_InL N ls os h
    have hrl : (rowsR (toC N ls os)).length = 2 * GT.lines (toC N ls os) := by simp [rowsR]
    obtain ⟨m, L, g1, g2, g3⟩ := gate_Apart_ok N ls os h
    rw [if_pos h, rall_f N ls os h k (by omega), Option.bind_some, g3]
    dsimp only
    obtain ⟨k', hk', e⟩ := apr_l0 N ls os h (anyN (toC N ls os) (2 ^ N)) (2 * (N + ls.length)) 0 k 20000 (Nat.sub_zero _) (Nat.zero_le _) (by omega)
    rw [show ((0 : Nat) : Int) = 0 from rfl] at e
    have e0 : nI ((List.range 0).map (agN (toC N ls os))) = [] := rfl
    rw [e0] at e
    rw [e]
    obtain ⟨k2, rfl⟩ : ∃ q, k' = q + 1 := ⟨k' - 1, by omega⟩
    have hsl : ∀ x, (anyN (toC N ls os) (2 ^ N)).testBit x = true → x < (rowsR (toC N ls os)).length := fun x hx => by rw [hrl]; exact hin.2 x hx
    obtain ⟨q, eq, aq, lq⟩ := rmost_f (rowsR (toC N ls os)) hA 62 _ k2 szB_le hin.1 hsl (by omega)
    rw [neonwrightref07_Apart.l0, lines_f N (by omega) ls (by omega), Option.bind_some, w64 (x := 2 * ((N + ls.length : Nat) : Int)) (by omega) (by omega), if_neg (by omega), eq, Option.bind_some]
    obtain ⟨L', f1, f2⟩ := apr_l2 (rowsR (toC N ls os)) hA 0 62 0 (anyN (toC N ls os) (2 ^ N)) q k2 [] (bitS (anyN (toC N ls os) (2 ^ N))) rfl (by omega) lq hin.1 hsl (fun x hx => bit44 hin.1 hx) (fun x => by simp) aq (fun b hb => by omega) (by omega) (by simp)
    rw [show ((0 : Nat) : Int) = 0 from rfl, List.nil_append] at f2
    rw [f2]
    -- the same list under the failures' numbers
    have hF : ∀ i, i < (shownF (toC N ls os)).length → (shownF (toC N ls os)).getD i 0 ∈ shownF (toC N ls os) ∧ (shownW (toC N ls os)).getD i 0 = GT.shows (toC N ls os) ((shownF (toC N ls os)).getD i 0) := fun i hi => by
      refine ⟨?_, ?_⟩
      · rw [List.getD_eq_getElem?_getD, List.getElem?_eq_getElem hi]; exact List.getElem_mem hi
      · unfold shownW
        rw [List.getD_eq_getElem?_getD, List.getD_eq_getElem?_getD, List.getElem?_map, List.getElem?_eq_getElem hi]
        rfl
    have hWF : (shownW (toC N ls os)).length = (shownF (toC N ls os)).length := List.length_map ..
    have hsort : (shownF (toC N ls os)).Pairwise (· < ·) := (List.pairwise_lt_range).filter _
    have hmono : ∀ x y, x < (shownW (toC N ls os)).length → y < (shownW (toC N ls os)).length → x < y → (shownF (toC N ls os)).getD x 0 < (shownF (toC N ls os)).getD y 0 := fun x y hx hy hxy => by
      rw [hWF] at hx hy
      rw [List.getD_eq_getElem?_getD, List.getD_eq_getElem?_getD, List.getElem?_eq_getElem hx, List.getElem?_eq_getElem hy]
      exact List.pairwise_iff_getElem.1 hsort x y hx hy hxy
    have hadj : ∀ x y, x < (shownW (toC N ls os)).length → y < (shownW (toC N ls os)).length → adjB (rowsR (toC N ls os)) ((shownF (toC N ls os)).getD x 0) ((shownF (toC N ls os)).getD y 0) = adjB (rowsG (shownW (toC N ls os))) x y := fun x y hx hy => by
      rw [adj_rowsG _ x y hx hy, Bool.eq_iff_iff, adj_rowsR]
      obtain ⟨hx1, hx2⟩ := hF x (by omega)
      obtain ⟨hy1, hy2⟩ := hF y (by omega)
      unfold pG
      rw [hx2, hy2, Bool.and_eq_true, decide_eq_true_iff, bne_iff_ne]
      constructor
      · rintro ⟨_, _, h3, v, h4, h5⟩
        refine ⟨fun e => h3 (by rw [e]), fun e => ?_⟩
        have : (GT.shows (toC N ls os) ((shownF (toC N ls os)).getD x 0) &&& GT.shows (toC N ls os) ((shownF (toC N ls os)).getD y 0)).testBit v = true := by rw [Nat.testBit_and, h4, h5]; rfl
        rw [e, Nat.zero_testBit] at this
        cases this
      · rintro ⟨h1, h2⟩
        refine ⟨(mem_whereN.1 hx1).1, (mem_whereN.1 hy1).1, fun e => ?_, ?_⟩
        · rcases Nat.lt_trichotomy x y with h | h | h
          · have := hmono x y hx hy h; omega
          · exact h1 h
          · have := hmono y x hy hx h; omega
        · refine Classical.byContradiction fun hn => h2 (Nat.eq_of_testBit_eq fun v => ?_)
          rw [Nat.testBit_and, Nat.zero_testBit]
          cases e1 : (GT.shows (toC N ls os) ((shownF (toC N ls os)).getD x 0)).testBit v with
          | false => rfl
          | true =>
            cases e2 : (GT.shows (toC N ls os) ((shownF (toC N ls os)).getD y 0)).testBit v with
            | false => rfl
            | true => exact absurd ⟨v, e1, e2⟩ hn
    have hset : ∀ y, (∃ x, x < (shownW (toC N ls os)).length ∧ (shownF (toC N ls os)).getD x 0 = y) ↔ bitS (anyN (toC N ls os) (2 ^ N)) y := fun y => by
      unfold bitS
      rw [show (2 : Nat) ^ N = 2 ^ (toC N ls os).n from rfl, anyN_bit, Bool.and_eq_true, decide_eq_true_iff]
      constructor
      · rintro ⟨x, hx, rfl⟩
        obtain ⟨h1, _⟩ := hF x (by omega)
        exact mem_whereN.1 h1
      · intro h1
        have hm : y ∈ shownF (toC N ls os) := mem_whereN.2 h1
        obtain ⟨i, hi, e⟩ := List.mem_iff_getElem.1 hm
        refine ⟨i, by omega, ?_⟩
        rw [List.getD_eq_getElem?_getD, List.getElem?_eq_getElem hi]
        exact e
    have hinj : ∀ x y, x < (shownW (toC N ls os)).length → y < (shownW (toC N ls os)).length → (shownF (toC N ls os)).getD x 0 = (shownF (toC N ls os)).getD y 0 → x = y := fun x y hx hy e => by
      rcases Nat.lt_trichotomy x y with h | h | h
      · have := hmono x y hx hy h; omega
      · exact h
      · have := hmono y x hy hx h; omega
    have g2' := (g2.map (adj' := adjB (rowsR (toC N ls os))) (φ := fun i => (shownF (toC N ls os)).getD i 0) hinj hadj).congr hset
    have hmq := g2'.unique aq
    subst hmq
    have g1' := (GT.First.map (adj' := adjB (rowsR (toC N ls os))) (φ := fun i => (shownF (toC N ls os)).getD i 0) hmono hadj ⟨_, fun x hx => hx⟩ g1).congr hset
    rw [g1'.unique f1]
  · unfold gate_Apart.f
    rw [if_neg h, if_neg h]
end Go.Proofs.Ytelfalicickelaa.P
set_option linter.unusedSimpArgs false
set_option linter.unusedVariables false
namespace Go.Proofs.Ytelfalicickelaa.P
open Go.Lib Go.RowKit Go.Proofs.YtelfalicickelaaW.PrintWords Go.Proofs.YtelfalicickelaaW.PrintLast Go.Proofs.YtelfalicickelaaW.PrintMore Go.Proofs.Ytelfalicickelaa.Kit
theorem firsts_len (can : Nat → List Nat → Nat → Bool) : ∀ (d v : Nat) (S : List Nat) (m : Nat), (GT.firsts can d v S m).length ≤ m
  | 0, _, _, _ => Nat.zero_le _
  | d + 1, _, _, 0 => Nat.le_refl _
  | d + 1, v, S, m + 1 => by
    rw [GT.firsts]
    split
    · rw [List.length_cons]
      exact Nat.succ_le_succ (firsts_len can d _ _ m)
    · exact firsts_len can d _ _ (m + 1)
theorem fewest_small (n : Int) (ls : List S40) (os : List Int) : ∃ p, gate_Fewest.f n ls os = some p ∧ p.1.length ≤ 100 := by
  refine ⟨_, rfl, ?_⟩
  by_cases h : okC n ls os = true
  · rw [if_pos h]
    obtain ⟨N, rfl⟩ := okC_nat h
    have hs := okC_small h
    rw [Int.toNat_natCast]
    obtain ⟨q1, q2, q3, q4⟩ := few_spec (V := 2 ^ N) (pow6 (by omega)) (S := fewL (toC N ls os)) (fewL_ok (toC N ls os)) (fewL_len N ls os h)
    have := firsts_len (canA (2 ^ (toC N ls os).n)) (2 ^ (toC N ls os).n) 0 (fewL (toC N ls os)) (fewM (2 ^ N) (fewL (toC N ls os)))
    have e : (nI (fewR (toC N ls os))).length = (GT.firsts (canA (2 ^ (toC N ls os).n)) (2 ^ (toC N ls os).n) 0 (fewL (toC N ls os)) (fewM (2 ^ N) (fewL (toC N ls os)))).length := by unfold nI; rw [List.length_map]; rfl
    show (nI (fewR (toC N ls os))).length ≤ 100
    rw [e]
    exact Nat.le_trans this (Nat.le_trans q3 (by decide))
  · rw [if_neg h]; exact Nat.zero_le _
theorem apart_small (n : Int) (ls : List S40) (os : List Int) : ∃ p, gate_Apart.f n ls os = some p ∧ p.1.length ≤ 100 := by
  by_cases h : okC n ls os = true
  · obtain ⟨N, rfl⟩ := okC_nat h
    obtain ⟨m, L, g1, g2, g3⟩ := gate_Apart_ok N ls os h
    refine ⟨_, g3, ?_⟩
    have hl1 : (shownF (toC N ls os)).length ≤ 44 := whereN_len N ls os h _
    have hl2 : (shownW (toC N ls os)).length = (shownF (toC N ls os)).length := List.length_map ..
    have hW : (shownW (toC N ls os)).length ≤ 44 := by omega
    have hi := g1.ind (GOk_rowsG hW).sym
    have := GT.nodup_len _ L hi.1.1 g1.mem
    show (nI (L.map _)).length ≤ 100
    unfold nI
    rw [List.length_map, List.length_map]
    omega
  · unfold gate_Apart.f
    rw [if_neg h]
    exact ⟨_, rfl, Nat.zero_le _⟩
end Go.Proofs.Ytelfalicickelaa.P
namespace Go.Proofs.Ytelfalicickelaa.Pure
open Go.RowKit Go.Proofs.Ytelfalicickelaa.P Go.Proofs.YtelfalicickelaaW.PrintWords Go.Proofs.YtelfalicickelaaW.PrintLast Go.Proofs.YtelfalicickelaaW.PrintMore Go.Proofs.Ytelfalicickelaa.Kit
theorem GateFewest (n : Int) (ls : List S40) (os : List Int) (w0 : (Lit.int .i64 n).wf = true) : ∃ k, neonwrightlaw07_GateFewest.f k n ls os = some true := by
  obtain ⟨K, hK⟩ : ∃ K : Nat, 1000000 ≤ K := ⟨1000000, Nat.le_refl _⟩
  refine ⟨K + 1, ?_⟩
  unfold neonwrightlaw07_GateFewest.f
  rw [few_f, Option.bind_some]
  by_cases h : isFew ls os = true
  · rw [if_pos h]
    obtain ⟨p, hp, hpl⟩ := fewest_small n ls os
    obtain ⟨q, hq, hql⟩ := apart_small n ls os
    rw [hp, Option.bind_some, rFewest_f n ls os (K + 1) (by omega), hp, Option.bind_some, same_f _ _ (by omega) (K + 1) (by omega), Option.bind_some, if_pos (by simp), neonwrightlaw07_GateFewest.j0, if_neg (by simp), hq, Option.bind_some, rApart_f n ls os K (by omega), hq, Option.bind_some, same_f _ _ (by omega) K (by omega), Option.bind_some, if_pos (by simp), if_pos rfl, alive_f, Option.bind_some]
  · rw [if_neg h, alive_f, Option.bind_some]
end Go.Proofs.Ytelfalicickelaa.Pure
