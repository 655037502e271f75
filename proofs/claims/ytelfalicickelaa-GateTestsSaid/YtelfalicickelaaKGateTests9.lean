/- Texts of this claim, merged by a program (shake.py): what the last theorems reach of RBase, RRef, RHas, PureGateTests. -/
import Derived.Test.YtelfalicickelaaKGateTests8
import Derived.Test.YtelfalicickelaaKB8
import Derived.Test.YtelfalicickelaaKGateTests1
import Derived.Test.YtelfalicickelaaKGateTests5
import Derived.Test.YtelfalicickelaaKGateTests3
import Derived.Test.YtelfalicickelaaKB1
import Derived.Test.YtelfalicickelaaKGateTests2
import Derived.Test.YtelfalicickelaaKGateTests4
import Derived.Test.YtelfalicickelaaKGateTests6
import Derived.Test.YtelfalicickelaaKGateTests7
set_option linter.unusedSimpArgs false
set_option linter.unusedVariables false
namespace Go.Proofs.Ytelfalicickelaa.P
open Go.Lib Go.RowKit Go.Proofs.YtelfalicickelaaW.PrintWords Go.Proofs.YtelfalicickelaaW.PrintLast Go.Proofs.YtelfalicickelaaW.PrintMore Go.Proofs.Ytelfalicickelaa.Kit
def isFew (ls : List S40) (os : List Int) : Bool := decide (ls.length ≤ 40) && decide (os.length ≤ 40)
theorem few_f (n : Int) (ls : List S40) (os : List Int) : neonwrightlaw07_few.f n ls os = some (isFew ls os) := by
  unfold neonwrightlaw07_few.f isFew
  by_cases h : ls.length ≤ 40
  · rw [if_pos (by omega), decide_eq_true h, Bool.true_and]
    congr 1
    by_cases h2 : os.length ≤ 40
    · rw [decide_eq_true h2, decide_eq_true (by omega)]
    · rw [decide_eq_false h2, decide_eq_false (by omega)]
  · rw [if_neg (by omega), decide_eq_false h, Bool.false_and]
theorem alive_f : neonwrightlaw07_alive.f = some true := rfl
theorem same_l0 (a b : List Int) (hl : a.length = b.length) (hs : a.length ≤ 1000) : ∀ (d i k : Nat), a.length - i = d → i ≤ a.length → d < k →
    neonwrightlaw07_same.l0 k a b (i : Int) = some (decide (a.drop i = b.drop i)) := by
  intro d
  induction d with
  | zero =>
    intro i k hd hi hk
    obtain ⟨k, rfl⟩ : ∃ q, k = q + 1 := ⟨k - 1, by omega⟩
    rw [neonwrightlaw07_same.l0, if_neg (by omega), List.drop_eq_nil_of_le (by omega), List.drop_eq_nil_of_le (by omega)]
    rfl
  | succ d ih =>
    intro i k hd hi hk
    obtain ⟨k, rfl⟩ : ∃ q, k = q + 1 := ⟨k - 1, by omega⟩
    have hw : wrap64 ((i : Int) + 1) = ((i + 1 : Nat) : Int) := by rw [w64 (by omega) (by omega)]; omega
    have ha : i < a.length := by omega
    have hb : i < b.length := by omega
    rw [neonwrightlaw07_same.l0, if_pos (by omega), if_pos (by omega), if_pos (by omega), rd_get _ _ ha, rd_get _ _ hb, List.drop_eq_getElem_cons ha, List.drop_eq_getElem_cons hb, hw]
    by_cases h : a[i] = b[i]
    · rw [if_pos h, ih (i + 1) k (by omega) (by omega) (by omega), h]
      congr 1
      by_cases h2 : a.drop (i + 1) = b.drop (i + 1)
      · rw [h2]; simp
      · rw [decide_eq_false h2, decide_eq_false (fun e => h2 (List.cons.inj e).2)]
    · rw [if_neg h, decide_eq_false (fun e => h (List.cons.inj e).1)]
theorem same_f (a b : List Int) (hs : a.length ≤ 1000) (k : Nat) (hk : a.length < k) : neonwrightlaw07_same.f k a b = some (decide (a = b)) := by
  unfold neonwrightlaw07_same.f
  by_cases h : a.length = b.length
  · rw [if_pos (by omega)]
    exact same_l0 a b h hs a.length 0 k (by omega) (by omega) (by omega)
  · rw [if_neg (by omega), decide_eq_false (fun e => h (congrArg List.length e))]
theorem vecOk_nat {N : Nat} {v : Int} : vecOk (N : Int) v ↔ 0 ≤ v ∧ v < ((2 ^ N : Nat) : Int) := by unfold vecOk; rw [Int.toNat_natCast]
theorem vec_f (N : Nat) (hN : N ≤ 6) (ls : List S40) (os : List Int) (v : Int) : neonwrightref07_Vector.f (N : Int) ls os v = some (decide (vecOk (N : Int) v)) := by
  unfold neonwrightref07_Vector.f
  by_cases h : 0 ≤ v
  · rw [if_pos h, if_pos (by omega), shl1n (n := N) (by omega)]
    congr 1
    by_cases h2 : v < ((2 ^ N : Nat) : Int)
    · rw [decide_eq_true h2, decide_eq_true (vecOk_nat.2 ⟨h, h2⟩)]
    · rw [decide_eq_false h2, decide_eq_false (fun e => h2 (vecOk_nat.1 e).2)]
  · rw [if_neg h, decide_eq_false (fun e => h (vecOk_nat.1 e).1)]
theorem lines_f (N : Nat) (hN : N ≤ 6) (ls : List S40) (hl : ls.length ≤ 100) (os : List Int) : neonwrightref07_Lines.f (N : Int) ls os = some ((N + ls.length : Nat) : Int) := by
  unfold neonwrightref07_Lines.f
  rw [w64 (by omega) (by omega)]
  congr 1
theorem stuck_f (N : Nat) (hN : N ≤ 6) (ls : List S40) (hl : ls.length ≤ 16) (os : List Int) (L a : Int) : neonwrightref07_IsStuck.f (N : Int) ls os L a = some (decide (stuckOk (N + ls.length) L a)) := by
  have hi : stuckOk (N + ls.length) L a ↔ 0 ≤ L ∧ L < ((N + ls.length : Nat) : Int) ∧ 0 ≤ a ∧ a ≤ 1 := Iff.rfl
  unfold neonwrightref07_IsStuck.f
  rw [lines_f N hN ls (by omega), Option.bind_some]
  by_cases h : 0 ≤ L
  · rw [if_pos h]
    by_cases h2 : L < ((N + ls.length : Nat) : Int)
    · rw [if_pos h2]
      by_cases h3 : a = 0
      · rw [if_pos h3, decide_eq_true (hi.2 (by omega))]
      · rw [if_neg h3]
        congr 1
        by_cases h4 : a = 1
        · rw [decide_eq_true (hi.2 (by omega)), h4]; rfl
        · rw [decide_eq_false (fun e => by have := hi.1 e; omega)]
          exact beq_eq_false_iff_ne.2 h4
    · rw [if_neg h2, decide_eq_false (fun e => by have := hi.1 e; omega)]
  · rw [if_neg h, decide_eq_false (fun e => by have := hi.1 e; omega)]
theorem none_f : neonwrightref07_none.f = some (lineOf none, atOf none) := rfl
theorem failure_f (f : Nat) (hf : f ≤ 1000) : neonwrightref07_failure.f (f : Int) = some (lineOf (some f), atOf (some f)) := by
  unfold neonwrightref07_failure.f
  have h1 : Int.tdiv (f : Int) 2 = ((f / 2 : Nat) : Int) := rfl
  have h2 : Int.tmod (f : Int) 2 = ((f % 2 : Nat) : Int) := rfl
  rw [h1, h2, w64 (by omega) (by omega)]
  rfl
theorem stuck_line {n : Nat} {L a : Int} (h : stuckOk n L a) : lineOf (some (2 * L + a).toNat) = L ∧ atOf (some (2 * L + a).toNat) = a := by
  unfold stuckOk at h
  constructor
  · show (((2 * L + a).toNat / 2 : Nat) : Int) = L
    omega
  · show (((2 * L + a).toNat % 2 : Nat) : Int) = a
    omega
theorem okC_nat {n : Int} {ls : List S40} {os : List Int} (h : okC n ls os = true) : ∃ N : Nat, n = (N : Int) := ⟨n.toNat, by have := okC_small h; omega⟩
end Go.Proofs.Ytelfalicickelaa.P
set_option linter.unusedSimpArgs false
set_option linter.unusedVariables false
namespace Go.Proofs.Ytelfalicickelaa.P
open Go.Lib Go.RowKit Go.Proofs.YtelfalicickelaaW.PrintWords Go.Proofs.YtelfalicickelaaW.PrintLast Go.Proofs.YtelfalicickelaaW.PrintMore Go.Proofs.Ytelfalicickelaa.Kit
theorem memb_none {x : Nat} (h : ∀ u, x.testBit u = false) : GT.memb x = [] := List.filter_eq_nil_iff.2 fun u _ => by rw [h u]; decide
theorem memb_first {x v : Nat} (hv : v < 64) (h : x.testBit v = true) (hmin : ∀ u, u < v → x.testBit u = false) : ∃ t, GT.memb x = v :: t := by
  have e : List.range 64 = List.range v ++ v :: List.range' (v + 1) (63 - v) := by
    rw [List.range_eq_range', List.range_eq_range', ← List.range'_succ, show 63 - v + 1 = 64 - v by omega]
    have := @List.range'_append_1 0 v (64 - v)
    rw [Nat.zero_add, show v + (64 - v) = 64 by omega] at this
    exact this.symm
  refine ⟨(List.range' (v + 1) (63 - v)).filter fun i => x.testBit i, ?_⟩
  unfold GT.memb
  rw [e, List.filter_append, List.filter_eq_nil_iff.2 (fun u hu => by rw [hmin u (List.mem_range.1 hu)]; decide), List.nil_append, List.filter_cons_of_pos h]
theorem shows_bit (c : GT.C) (f v : Nat) : (GT.shows c f).testBit v = (decide (v < 2 ^ c.n) && decide (GT.reply c (some f) v ≠ GT.reply c none v)) := GT.wd_bit _ _ _
theorem rtest_l0 (N : Nat) (ls : List S40) (os : List Int) (hok : okC (N : Int) ls os = true) (f : Nat) : ∀ (d v k : Nat), 2 ^ N - v = d → v ≤ 2 ^ N → (∀ u, u < v → (GT.shows (toC N ls os) f).testBit u = false) → d + 50 < k →
    neonwrightref07_Test.l0 k (v : Int) (N : Int) ls os (lineOf (some f)) (atOf (some f)) = some (match GT.memb (GT.shows (toC N ls os) f) with | [] => (0, 10) | v :: _ => ((v : Int), 0)) := by
  have hs := okC_small hok
  have hp := pow6 (N := N) (by omega)
  intro d
  induction d with
  | zero =>
    intro v k hd hv hu hk
    obtain ⟨k, rfl⟩ : ∃ q, k = q + 1 := ⟨k - 1, by omega⟩
    rw [neonwrightref07_Test.l0, if_pos (by omega), shl1n (by omega), if_neg (by omega), memb_none]
    intro u
    by_cases h : u < v
    · exact hu u h
    · rw [shows_bit, decide_eq_false (by show ¬ u < 2 ^ N; omega), Bool.false_and]
  | succ d ih =>
    intro v k hd hv hu hk
    obtain ⟨k, rfl⟩ : ∃ q, k = q + 1 := ⟨k - 1, by omega⟩
    have hw : wrap64 ((v : Int) + 1) = ((v + 1 : Nat) : Int) := by rw [w64 (by omega) (by omega)]; omega
    rw [neonwrightref07_Test.l0, if_pos (by omega), shl1n (by omega), if_pos (by omega), rreply_f N ls os hok (some f) v k (by omega), Option.bind_some, none_f, Option.bind_some]
    dsimp only
    rw [rreply_f N ls os hok none v k (by omega), Option.bind_some, hw]
    have hb := shows_bit (toC N ls os) f v
    rw [decide_eq_true (show v < 2 ^ (toC N ls os).n from (by show v < 2 ^ N; omega)), Bool.true_and] at hb
    by_cases h : GT.reply (toC N ls os) (some f) v = GT.reply (toC N ls os) none v
    · rw [if_pos (by rw [h])]
      refine ih (v + 1) k (by omega) (by omega) (fun u hu' => ?_) (by omega)
      by_cases e : u = v
      · rw [e, hb, decide_eq_false (fun e => e h)]
      · exact hu u (by omega)
    · rw [if_neg (fun e => h (by omega))]
      rw [decide_eq_true h] at hb
      obtain ⟨t, ht⟩ := memb_first (by omega) hb hu
      rw [ht]
theorem rTest_f (n : Int) (ls : List S40) (os : List Int) (L a : Int) (k : Nat) (hk : 150 ≤ k) : neonwrightref07_Test.f k n ls os L a = gate_Test.f n ls os L a := by
  obtain ⟨k, rfl⟩ : ∃ q, k = q + 1 := ⟨k - 1, by omega⟩
  unfold neonwrightref07_Test.f gate_Test.f
  rw [rCircuit_f n ls os (k + 1) (by omega), Option.bind_some]
  by_cases h : okC n ls os = true
  · obtain ⟨N, rfl⟩ := okC_nat h
    have hs := okC_small h
    have hp := pow6 (N := N) (by omega)
    rw [if_pos h, stuck_f N (by omega) ls (by omega), Option.bind_some, Int.toNat_natCast, neonwrightref07_Test.j0]
    by_cases hst : stuckOk (N + ls.length) L a
    · have e := rtest_l0 N ls os h (2 * L + a).toNat (2 ^ N) 0 k (Nat.sub_zero _) (Nat.zero_le _) (fun u hu => absurd hu (Nat.not_lt_zero _)) (by omega)
      obtain ⟨e1, e2⟩ := stuck_line hst
      rw [e1, e2] at e
      rw [decide_eq_true hst, if_neg (by decide), if_pos ⟨h, hst⟩]
      exact e
    · rw [decide_eq_false hst, if_pos (show (!false) = true from rfl), if_neg (fun e => hst e.2)]
  · rw [if_neg h, neonwrightref07_Test.j0, if_pos rfl, if_neg (fun e => h e.1)]
def shP (c : GT.C) (v f : Nat) : Bool := decide (GT.reply c (some f) v ≠ GT.reply c none v)
def shN (c : GT.C) (v : Nat) : Nat := GT.num ((List.range (2 * GT.lines c)).map (shP c v))
theorem num_range_succ (p : Nat → Bool) (i : Nat) : GT.num ((List.range (i + 1)).map p) = GT.num ((List.range i).map p) + (p i).toNat * 2 ^ i := by
  rw [List.range_succ, List.map_append, List.map_cons, List.map_nil, GT.num_append, List.length_map, List.length_range]
theorem num_range_lt (p : Nat → Bool) (i : Nat) : GT.num ((List.range i).map p) < 2 ^ i := by
  have := GT.num_lt ((List.range i).map p)
  rwa [List.length_map, List.length_range] at this
theorem num_range_bit (p : Nat → Bool) (n i : Nat) : (GT.num ((List.range n).map p)).testBit i = (decide (i < n) && p i) := by
  rw [GT.num_bit, List.getD_eq_getElem?_getD, List.getElem?_map]
  by_cases h : i < n
  · rw [List.getElem?_eq_getElem (by simpa using h), decide_eq_true h]; simp
  · rw [List.getElem?_eq_none (by simp; omega), decide_eq_false h]; rfl
theorem pow44 {i : Nat} (h : i ≤ 44) : 2 ^ i ≤ 17592186044416 := by
  have := Nat.pow_le_pow_right (n := 2) (by decide) h
  have e : (2 : Nat) ^ 44 = 17592186044416 := by decide
  omega
theorem rshown_l0 (N : Nat) (ls : List S40) (os : List Int) (hok : okC (N : Int) ls os = true) (v : Nat) : ∀ (d i k : Nat), 2 * (N + ls.length) - i = d → i ≤ 2 * (N + ls.length) → d + 50 < k →
    neonwrightref07_shown.l0 k (v : Int) ((GT.num ((List.range i).map (shP (toC N ls os) v)) : Nat) : Int) ((GT.reply (toC N ls os) none v : Nat) : Int) (i : Int) (N : Int) ls os = some ((shN (toC N ls os) v : Nat) : Int) := by
  have hs := okC_small hok
  intro d
  induction d with
  | zero =>
    intro i k hd hi hk
    obtain ⟨k, rfl⟩ : ∃ q, k = q + 1 := ⟨k - 1, by omega⟩
    rw [neonwrightref07_shown.l0, lines_f N (by omega) ls (by omega), Option.bind_some, w64 (by omega) (by omega), if_neg (by omega)]
    unfold shN
    rw [toC_lines, show i = 2 * (N + ls.length) by omega]
  | succ d ih =>
    intro i k hd hi hk
    obtain ⟨k, rfl⟩ : ∃ q, k = q + 1 := ⟨k - 1, by omega⟩
    have hw : wrap64 ((i : Int) + 1) = ((i + 1 : Nat) : Int) := by rw [w64 (by omega) (by omega)]; omega
    have h1 := ih (i + 1) k (by omega) (by omega) (by omega)
    rw [num_range_succ] at h1
    rw [neonwrightref07_shown.l0, lines_f N (by omega) ls (by omega), Option.bind_some, w64 (x := 2 * ((N + ls.length : Nat) : Int)) (by omega) (by omega), if_pos (by omega), failure_f i (by omega), Option.bind_some]
    dsimp only
    rw [rreply_f N ls os hok (some i) v k (by omega), Option.bind_some, hw]
    by_cases h : GT.reply (toC N ls os) (some i) v = GT.reply (toC N ls os) none v
    · rw [if_pos (by rw [h])]
      rw [show shP (toC N ls os) v i = false from decide_eq_false (fun e => e h)] at h1
      rw [show Bool.toNat false = 0 from rfl, Nat.zero_mul, Nat.add_zero] at h1
      exact h1
    · rw [if_neg (fun e => h (by omega)), if_pos (by omega), shl1n (by omega)]
      rw [show shP (toC N ls os) v i = true from decide_eq_true h] at h1
      rw [show Bool.toNat true = 1 from rfl, Nat.one_mul] at h1
      have hlt := num_range_lt (shP (toC N ls os) v) i
      have hp := pow44 (i := i) (by omega)
      have hw2 : wrap64 (((GT.num ((List.range i).map (shP (toC N ls os) v)) : Nat) : Int) + ((2 ^ i : Nat) : Int)) = ((GT.num ((List.range i).map (shP (toC N ls os) v)) + 2 ^ i : Nat) : Int) := by
        generalize 2 ^ i = q at *
        rw [w64 (by omega) (by omega)]; omega
      rw [hw2]
      exact h1
theorem rshown_f (N : Nat) (ls : List S40) (os : List Int) (hok : okC (N : Int) ls os = true) (v : Nat) (k : Nat) (hk : 200 ≤ k) : neonwrightref07_shown.f k (N : Int) ls os (v : Int) = some ((shN (toC N ls os) v : Nat) : Int) := by
  have hs := okC_small hok
  unfold neonwrightref07_shown.f
  rw [none_f, Option.bind_some]
  dsimp only
  rw [rreply_f N ls os hok none v k (by omega), Option.bind_some]
  exact rshown_l0 N ls os hok v (2 * (N + ls.length)) 0 k (by omega) (by omega) (by omega)
theorem rlisted_l0 (x : Nat) (hx : x < 4611686018427387904) : ∀ (d i k : Nat) (acc : List Int), 62 - i = d → i ≤ 62 → d < k → acc.length ≤ i →
    neonwrightref07_listed.l0 k (x : Int) acc (i : Int) = some (acc ++ nI ((List.range' i d).filter fun j => x.testBit j)) := by
  have hend : ∀ i, 62 ≤ i → x / 2 ^ i = 0 := fun i hi => by
    have := Nat.pow_le_pow_right (n := 2) (by decide) hi
    exact Nat.div_eq_of_lt (by omega)
  intro d
  induction d with
  | zero =>
    intro i k acc hd hi hk ha
    obtain ⟨k, rfl⟩ : ∃ q, k = q + 1 := ⟨k - 1, by omega⟩
    rw [neonwrightref07_listed.l0, if_pos (by omega), shrn (by omega), hend i (by omega), if_neg (by omega)]
    simp [nI]
  | succ d ih =>
    intro i k acc hd hi hk ha
    obtain ⟨k, rfl⟩ : ∃ q, k = q + 1 := ⟨k - 1, by omega⟩
    have hw : wrap64 ((i : Int) + 1) = ((i + 1 : Nat) : Int) := by rw [w64 (by omega) (by omega)]; omega
    rw [neonwrightref07_listed.l0, if_pos (by omega), shrn (by omega)]
    by_cases h0 : x / 2 ^ i = 0
    · rw [h0, if_neg (by omega), List.filter_eq_nil_iff.2 (fun j hj => by
        have := (List.mem_range'_1.1 hj).1
        rw [div_zero_bits h0 this]; decide)]
      simp [nI]
    · have hq : ((x / 2 ^ i : Nat) : Int) > 0 := by generalize x / 2 ^ i = q at *; omega
      rw [if_pos hq, show (2 : Int) = ((2 : Nat) : Int) from rfl, tmodn, bit_one, hw, List.range'_succ]
      cases hb : x.testBit i with
      | true =>
        rw [if_pos (show ((true.toNat : Nat) : Int) = 1 from rfl), if_pos (by omega), ih (i + 1) k _ (by omega) (by omega) (by omega) (by rw [List.length_append, List.length_singleton]; omega), List.filter_cons_of_pos hb]
        simp [nI]
      | false =>
        rw [if_neg (by decide), ih (i + 1) k _ (by omega) (by omega) (by omega) (by omega), List.filter_cons_of_neg (by rw [hb]; decide)]
def listN (x : Nat) : List Nat := (List.range 62).filter fun j => x.testBit j
theorem rlisted_f (x : Nat) (hx : x < 4611686018427387904) (k : Nat) (hk : 63 ≤ k) : neonwrightref07_listed.f k (x : Int) = some (nI (listN x)) := by
  have := rlisted_l0 x hx 62 0 k [] (by omega) (by omega) (by omega) (by simp)
  rw [List.nil_append, ← List.range_eq_range'] at this
  exact this
theorem listN_num (m : Nat) (hm : m ≤ 62) (p : Nat → Bool) : listN (GT.num ((List.range m).map p)) = (List.range m).filter p := by
  unfold listN
  have e : List.range 62 = List.range m ++ List.range' m (62 - m) := by
    rw [List.range_eq_range', List.range_eq_range']
    have := @List.range'_append_1 0 m (62 - m)
    rw [Nat.zero_add, show m + (62 - m) = 62 by omega] at this
    exact this.symm
  have e2 : (List.range' m (62 - m)).filter (fun j => (GT.num ((List.range m).map p)).testBit j) = [] := List.filter_eq_nil_iff.2 fun u hu => by
    have := (List.mem_range'_1.1 hu).1
    rw [num_range_bit, decide_eq_false (by omega), Bool.false_and]; decide
  rw [e, List.filter_append, e2, List.append_nil]
  refine List.filter_congr fun u hu => ?_
  rw [num_range_bit, decide_eq_true (List.mem_range.1 hu), Bool.true_and]
theorem shN_lt (N : Nat) (ls : List S40) (os : List Int) (hok : okC (N : Int) ls os = true) (v : Nat) : shN (toC N ls os) v < 17592186044416 := by
  have hs := okC_small hok
  unfold shN
  refine Nat.lt_of_lt_of_le (num_range_lt _ _) (pow44 ?_)
  rw [toC_lines]; omega
theorem listN_shN (N : Nat) (ls : List S40) (os : List Int) (hok : okC (N : Int) ls os = true) (v : Nat) (hv : v < 2 ^ N) : listN (shN (toC N ls os) v) = whereN (toC N ls os) (fun x => x.testBit v) := by
  have hs := okC_small hok
  unfold shN whereN
  rw [listN_num _ (by rw [toC_lines]; omega)]
  refine List.filter_congr fun f hf => ?_
  show shP (toC N ls os) v f = (GT.shows (toC N ls os) f).testBit v
  rw [shows_bit, decide_eq_true (show v < 2 ^ (toC N ls os).n from hv), Bool.true_and]
  rfl
theorem rShown_f (n : Int) (ls : List S40) (os : List Int) (v : Int) (k : Nat) (hk : 250 ≤ k) : neonwrightref07_Shown.f k n ls os v = gate_Shown.f n ls os v := by
  obtain ⟨k, rfl⟩ : ∃ q, k = q + 1 := ⟨k - 1, by omega⟩
  unfold neonwrightref07_Shown.f gate_Shown.f
  rw [rCircuit_f n ls os (k + 1) (by omega), Option.bind_some]
  by_cases h : okC n ls os = true
  · obtain ⟨N, rfl⟩ := okC_nat h
    have hs := okC_small h
    rw [if_pos h, vec_f N (by omega), Option.bind_some, neonwrightref07_Shown.j0]
    by_cases hv : vecOk (N : Int) v
    · obtain ⟨V, rfl⟩ : ∃ V : Nat, v = V := ⟨v.toNat, by have := hv.1; omega⟩
      have hlt := shN_lt N ls os h V
      have hV : V < 2 ^ N := by
        have h2 := hv.2
        rw [Int.toNat_natCast] at h2
        omega
      rw [decide_eq_true hv, if_neg (by decide), rshown_f N ls os h V k (by omega), Option.bind_some, rlisted_f _ (by omega) k (by omega), Option.bind_some, if_pos ⟨h, hv⟩, Int.toNat_natCast, Int.toNat_natCast, listN_shN N ls os h V hV]
    · rw [decide_eq_false hv, if_pos (show (!false) = true from rfl), if_neg (fun e => hv e.2)]
  · rw [if_neg h, neonwrightref07_Shown.j0, if_pos rfl, if_neg (fun e => h e.1)]
def anyP (c : GT.C) (v f : Nat) : Bool := (List.range v).any fun u => shP c u f
def anyN (c : GT.C) (v : Nat) : Nat := GT.num ((List.range (2 * GT.lines c)).map (anyP c v))
theorem anyN_or (c : GT.C) (v : Nat) : anyN c v ||| shN c v = anyN c (v + 1) := by
  refine Nat.eq_of_testBit_eq fun i => ?_
  unfold anyN shN
  rw [Nat.testBit_or, num_range_bit, num_range_bit, num_range_bit]
  unfold anyP
  rw [List.range_succ, List.any_append]
  cases decide (i < 2 * GT.lines c) <;> simp
theorem anyN_lt (N : Nat) (ls : List S40) (os : List Int) (hok : okC (N : Int) ls os = true) (v : Nat) : anyN (toC N ls os) v < 17592186044416 := by
  have hs := okC_small hok
  unfold anyN
  refine Nat.lt_of_lt_of_le (num_range_lt _ _) (pow44 ?_)
  rw [toC_lines]; omega
theorem rall_l0 (N : Nat) (ls : List S40) (os : List Int) (hok : okC (N : Int) ls os = true) : ∀ (d v k : Nat), 2 ^ N - v = d → v ≤ 2 ^ N → d + 210 < k →
    neonwrightref07_all.l0 k (nI ((List.range v).map (shN (toC N ls os)))) ((anyN (toC N ls os) v : Nat) : Int) (v : Int) (N : Int) ls os = some (nI ((List.range (2 ^ N)).map (shN (toC N ls os))), ((anyN (toC N ls os) (2 ^ N) : Nat) : Int)) := by
  have hs := okC_small hok
  have hp := pow6 (N := N) (by omega)
  intro d
  induction d with
  | zero =>
    intro v k hd hv hk
    obtain ⟨k, rfl⟩ : ∃ q, k = q + 1 := ⟨k - 1, by omega⟩
    rw [neonwrightref07_all.l0, if_pos (by omega), shl1n (by omega), if_neg (by omega), show v = 2 ^ N by omega]
  | succ d ih =>
    intro v k hd hv hk
    obtain ⟨k, rfl⟩ : ∃ q, k = q + 1 := ⟨k - 1, by omega⟩
    have hw : wrap64 ((v : Int) + 1) = ((v + 1 : Nat) : Int) := by rw [w64 (by omega) (by omega)]; omega
    have h1 := ih (v + 1) k (by omega) (by omega) (by omega)
    have l1 := anyN_lt N ls os hok v
    have l2 := shN_lt N ls os hok v
    rw [neonwrightref07_all.l0, if_pos (by omega), shl1n (by omega), if_pos (by omega), rshown_f N ls os hok v k (by omega), Option.bind_some, if_pos (by simp [nI]; omega), or64 _ _ (by omega) (by omega), anyN_or, hw]
    rw [List.range_succ, List.map_append] at h1
    unfold nI at h1 ⊢
    rw [List.map_append] at h1
    exact h1
theorem rall_f (N : Nat) (ls : List S40) (os : List Int) (hok : okC (N : Int) ls os = true) (k : Nat) (hk : 300 ≤ k) : neonwrightref07_all.f k (N : Int) ls os = some (nI ((List.range (2 ^ N)).map (shN (toC N ls os))), ((anyN (toC N ls os) (2 ^ N) : Nat) : Int)) := by
  have hs := okC_small hok
  have hp := pow6 (N := N) (by omega)
  have e := rall_l0 N ls os hok (2 ^ N) 0 k (Nat.sub_zero _) (Nat.zero_le _) (by omega)
  have e0 : anyN (toC N ls os) 0 = 0 := by
    refine Nat.eq_of_testBit_eq fun i => ?_
    unfold anyN anyP
    rw [num_range_bit]
    simp
  rw [e0] at e
  exact e
theorem anyP_shows (c : GT.C) (f : Nat) : anyP c (2 ^ c.n) f = (GT.shows c f != 0) := by
  rw [Bool.eq_iff_iff, bne_iff_ne, Ne, show (GT.shows c f = 0) ↔ _ from GT.wd_zero _ _]
  unfold anyP
  rw [List.any_eq_true]
  constructor
  · rintro ⟨v, hv, h⟩ h2
    have := h2 v (List.mem_range.1 hv)
    exact absurd ((show shP c v f = false from this) ▸ h) (by decide)
  · intro h
    refine Classical.byContradiction fun h2 => h fun v hv => ?_
    cases e : shP c v f with
    | false => exact e
    | true => exact absurd ⟨v, List.mem_range.2 hv, e⟩ h2
theorem rHidden_f (n : Int) (ls : List S40) (os : List Int) (k : Nat) (hk : 350 ≤ k) : neonwrightref07_Hidden.f k n ls os = gate_Hidden.f n ls os := by
  unfold neonwrightref07_Hidden.f gate_Hidden.f
  rw [rCircuit_f n ls os k (by omega), Option.bind_some]
  by_cases h : okC n ls os = true
  · obtain ⟨N, rfl⟩ := okC_nat h
    have hs := okC_small h
    have ha := anyN_lt N ls os h (2 ^ N)
    have hp := pow44 (i := 2 * (N + ls.length)) (by omega)
    have hle : anyN (toC N ls os) (2 ^ N) < 2 ^ (2 * (N + ls.length)) := by
      unfold anyN
      have := num_range_lt (anyP (toC N ls os) (2 ^ N)) (2 * GT.lines (toC N ls os))
      rw [toC_lines] at this ⊢
      exact this
    have hc : 2 ^ (2 * (N + ls.length)) - 1 - anyN (toC N ls os) (2 ^ N) = GT.num ((List.range (2 * (N + ls.length))).map fun f => !anyP (toC N ls os) (2 ^ N) f) := by
      refine Nat.eq_of_testBit_eq fun i => ?_
      rw [show 2 ^ (2 * (N + ls.length)) - 1 - anyN (toC N ls os) (2 ^ N) = 2 ^ (2 * (N + ls.length)) - (anyN (toC N ls os) (2 ^ N) + 1) by omega, Nat.testBit_two_pow_sub_succ hle, num_range_bit]
      unfold anyN
      rw [num_range_bit, toC_lines]
      cases decide (i < 2 * (N + ls.length)) <;> simp
    rw [if_pos h, rall_f N ls os h k (by omega), Option.bind_some, lines_f N (by omega) ls (by omega), Option.bind_some, w64 (x := 2 * ((N + ls.length : Nat) : Int)) (by omega) (by omega), if_pos (by omega), if_pos h]
    dsimp only
    have hsh : shl .i64 1 (2 * ((N + ls.length : Nat) : Int)) = ((2 ^ (2 * (N + ls.length)) : Nat) : Int) := by
      have := shl1n (n := 2 * (N + ls.length)) (by omega)
      rw [← this]
      congr 1
    rw [hsh]
    have hwr : wrap64 (wrap64 (((2 ^ (2 * (N + ls.length)) : Nat) : Int) - 1) - ((anyN (toC N ls os) (2 ^ N) : Nat) : Int)) = ((2 ^ (2 * (N + ls.length)) - 1 - anyN (toC N ls os) (2 ^ N) : Nat) : Int) := by
      generalize 2 ^ (2 * (N + ls.length)) = q at *
      generalize anyN (toC N ls os) (2 ^ N) = a at *
      rw [w64 (x := (q : Int) - 1) (by omega) (by omega), w64 (by omega) (by omega)]
      omega
    rw [hwr, hc, rlisted_f _ (by
      have := num_range_lt (fun f => !anyP (toC N ls os) (2 ^ N) f) (2 * (N + ls.length))
      omega) k (by omega), Option.bind_some, listN_num _ (by omega), Int.toNat_natCast]
    have : (List.range (2 * (N + ls.length))).filter (fun f => !anyP (toC N ls os) (2 ^ N) f) = whereN (toC N ls os) (fun x => x == 0) := by
      unfold whereN
      rw [toC_lines]
      refine List.filter_congr fun f hf => ?_
      rw [show (2 : Nat) ^ N = 2 ^ (toC N ls os).n from rfl, anyP_shows]
      show (!(!(GT.shows (toC N ls os) f == 0))) = (GT.shows (toC N ls os) f == 0)
      rw [Bool.not_not]
    rw [this]
  · rw [if_neg h, if_neg h]
end Go.Proofs.Ytelfalicickelaa.P
set_option linter.unusedSimpArgs false
set_option linter.unusedVariables false
namespace Go.Proofs.Ytelfalicickelaa.P
open Go.Lib Go.RowKit Go.Proofs.YtelfalicickelaaW.PrintWords Go.Proofs.YtelfalicickelaaW.PrintLast Go.Proofs.YtelfalicickelaaW.PrintMore Go.Proofs.Ytelfalicickelaa.Kit
theorem whereN_len (N : Nat) (ls : List S40) (os : List Int) (hok : okC (N : Int) ls os = true) (p : Nat → Bool) : (whereN (toC N ls os) p).length ≤ 44 := by
  have hs := okC_small hok
  unfold whereN
  refine Nat.le_trans (List.length_filter_le _ _) ?_
  rw [List.length_range, toC_lines]; omega
theorem shown_small (n : Int) (ls : List S40) (os : List Int) (v : Int) : ∃ p, gate_Shown.f n ls os v = some p ∧ p.1.length ≤ 44 := by
  refine ⟨_, rfl, ?_⟩
  by_cases h : okC n ls os = true ∧ vecOk n v
  · rw [if_pos h]
    obtain ⟨N, rfl⟩ := okC_nat h.1
    rw [Int.toNat_natCast]
    simpa [nI] using whereN_len N ls os h.1 _
  · rw [if_neg h]; exact Nat.zero_le _
theorem hidden_small (n : Int) (ls : List S40) (os : List Int) : ∃ p, gate_Hidden.f n ls os = some p ∧ p.1.length ≤ 44 := by
  refine ⟨_, rfl, ?_⟩
  by_cases h : okC n ls os = true
  · rw [if_pos h]
    obtain ⟨N, rfl⟩ := okC_nat h
    rw [Int.toNat_natCast]
    simpa [nI] using whereN_len N ls os h _
  · rw [if_neg h]; exact Nat.zero_le _
end Go.Proofs.Ytelfalicickelaa.P
set_option linter.unusedSimpArgs false
set_option linter.unusedVariables false
namespace Go.Proofs.Ytelfalicickelaa.Pure
open Go.RowKit Go.Proofs.Ytelfalicickelaa.P Go.Proofs.YtelfalicickelaaW.PrintWords Go.Proofs.YtelfalicickelaaW.PrintLast Go.Proofs.YtelfalicickelaaW.PrintMore Go.Proofs.Ytelfalicickelaa.Kit
theorem GateTests (n : Int) (ls : List S40) (os : List Int) (L a v : Int) (w0 : (Lit.int .i64 n).wf = true) (w2 : (Lit.int .i64 v).wf = true) : ∃ k, neonwrightlaw07_GateTests.f k n ls os L a v = some true := by
  refine ⟨3002, ?_⟩
  unfold neonwrightlaw07_GateTests.f
  rw [few_f, Option.bind_some]
  by_cases h : isFew ls os = true
  · rw [if_pos h]
    rw [rTest_f n ls os L a 3002 (by omega)]
    obtain ⟨p, hp⟩ : ∃ p, gate_Test.f n ls os L a = some p := ⟨_, rfl⟩
    obtain ⟨q, hq, hql⟩ := shown_small n ls os v
    obtain ⟨r, hr, hrl⟩ := hidden_small n ls os
    rw [hp, Option.bind_some, Option.bind_some, if_pos rfl, show (3002 : Nat) = 3001 + 1 from rfl, neonwrightlaw07_GateTests.j0, if_neg (by simp), hq, Option.bind_some, rShown_f n ls os v 3001 (by omega), hq, Option.bind_some, same_f _ _ (by omega) 3001 (by omega), Option.bind_some, if_pos (by simp), show (3001 : Nat) = 3000 + 1 from rfl, neonwrightlaw07_GateTests.j1, if_neg (by simp), hr, Option.bind_some, rHidden_f n ls os 3000 (by omega), hr, Option.bind_some, same_f _ _ (by omega) 3000 (by omega), Option.bind_some, if_pos (by simp), if_pos rfl, alive_f, Option.bind_some]
  · rw [if_neg h, alive_f, Option.bind_some]
end Go.Proofs.Ytelfalicickelaa.Pure
