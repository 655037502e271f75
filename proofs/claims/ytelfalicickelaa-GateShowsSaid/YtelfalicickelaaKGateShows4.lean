/- Texts of this claim, merged by a program (shake.py): what the last theorems reach of RBase, RRef, RHas, PureGateShows. -/
import Derived.Test.YtelfalicickelaaKB2
import Derived.Test.YtelfalicickelaaKB3
import Derived.Test.YtelfalicickelaaKB1
import Derived.Test.YtelfalicickelaaKGateShows1
import Derived.Test.YtelfalicickelaaKB8
import Derived.Test.YtelfalicickelaaKGateShows2
import Derived.Test.YtelfalicickelaaKGateShows3
set_option linter.unusedSimpArgs false
set_option linter.unusedVariables false
namespace Go.Proofs.Ytelfalicickelaa.P
open Go.Lib Go.RowKit Go.Proofs.YtelfalicickelaaW.PrintWords Go.Proofs.YtelfalicickelaaW.PrintLast Go.Proofs.YtelfalicickelaaW.PrintMore Go.Proofs.Ytelfalicickelaa.Kit
def isFew (ls : List S40) (os : List Int) : Bool := decide (ls.length ≤ 40) && decide (os.length ≤ 40)
theorem few_f (n : Int) (ls : List S40) (os : List Int) : neonwrightlaw07_few.f n ls os = some (isFew ls os) := by
  unfold neonwrightlaw07_few.f isFew
  by_cases h : ls.length ≤ 40
  · rw [if_pos (by omega), decide_eq_true h, Bool.true_and]
    congr 1
    by_cases h2 : os.length ≤ 40
    · rw [decide_eq_true h2, decide_eq_true (by omega)]
    · rw [decide_eq_false h2, decide_eq_false (by omega)]
  · rw [if_neg (by omega), decide_eq_false h, Bool.false_and]
theorem alive_f : neonwrightlaw07_alive.f = some true := rfl
theorem vecOk_nat {N : Nat} {v : Int} : vecOk (N : Int) v ↔ 0 ≤ v ∧ v < ((2 ^ N : Nat) : Int) := by unfold vecOk; rw [Int.toNat_natCast]
theorem lines_f (N : Nat) (hN : N ≤ 6) (ls : List S40) (hl : ls.length ≤ 100) (os : List Int) : neonwrightref07_Lines.f (N : Int) ls os = some ((N + ls.length : Nat) : Int) := by
  unfold neonwrightref07_Lines.f
  rw [w64 (by omega) (by omega)]
  congr 1
theorem stuck_f (N : Nat) (hN : N ≤ 6) (ls : List S40) (hl : ls.length ≤ 16) (os : List Int) (L a : Int) : neonwrightref07_IsStuck.f (N : Int) ls os L a = some (decide (stuckOk (N + ls.length) L a)) := by
  have hi : stuckOk (N + ls.length) L a ↔ 0 ≤ L ∧ L < ((N + ls.length : Nat) : Int) ∧ 0 ≤ a ∧ a ≤ 1 := Iff.rfl
  unfold neonwrightref07_IsStuck.f
  rw [lines_f N hN ls (by omega), Option.bind_some]
  by_cases h : 0 ≤ L
  · rw [if_pos h]
    by_cases h2 : L < ((N + ls.length : Nat) : Int)
    · rw [if_pos h2]
      by_cases h3 : a = 0
      · rw [if_pos h3, decide_eq_true (hi.2 (by omega))]
      · rw [if_neg h3]
        congr 1
        by_cases h4 : a = 1
        · rw [decide_eq_true (hi.2 (by omega)), h4]; rfl
        · rw [decide_eq_false (fun e => by have := hi.1 e; omega)]
          exact beq_eq_false_iff_ne.2 h4
    · rw [if_neg h2, decide_eq_false (fun e => by have := hi.1 e; omega)]
  · rw [if_neg h, decide_eq_false (fun e => by have := hi.1 e; omega)]
theorem okC_nat {n : Int} {ls : List S40} {os : List Int} (h : okC n ls os = true) : ∃ N : Nat, n = (N : Int) := ⟨n.toNat, by have := okC_small h; omega⟩
end Go.Proofs.Ytelfalicickelaa.P
set_option linter.unusedSimpArgs false
set_option linter.unusedVariables false
namespace Go.Proofs.Ytelfalicickelaa.P
open Go.Lib Go.RowKit Go.Proofs.YtelfalicickelaaW.PrintWords Go.Proofs.YtelfalicickelaaW.PrintLast Go.Proofs.YtelfalicickelaaW.PrintMore Go.Proofs.Ytelfalicickelaa.Kit
theorem shows_bit (c : GT.C) (f v : Nat) : (GT.shows c f).testBit v = (decide (v < 2 ^ c.n) && decide (GT.reply c (some f) v ≠ GT.reply c none v)) := GT.wd_bit _ _ _
end Go.Proofs.Ytelfalicickelaa.P
set_option linter.unusedSimpArgs false
set_option linter.unusedVariables false
namespace Go.Proofs.Ytelfalicickelaa.P
open Go.Lib Go.RowKit Go.Proofs.YtelfalicickelaaW.PrintWords Go.Proofs.YtelfalicickelaaW.PrintLast Go.Proofs.YtelfalicickelaaW.PrintMore Go.Proofs.Ytelfalicickelaa.Kit
theorem has_l0 (l : List Int) (x : Int) (hl : l.length ≤ 1000) : ∀ (d i k : Nat), l.length - i = d → i ≤ l.length → d < k → neonwrightlaw07_has.l0 k l x (i : Int) = some (decide (x ∈ l.drop i)) := by
  intro d
  induction d with
  | zero =>
    intro i k hd hi hk
    obtain ⟨k, rfl⟩ : ∃ q, k = q + 1 := ⟨k - 1, by omega⟩
    rw [neonwrightlaw07_has.l0, if_neg (by omega), List.drop_eq_nil_of_le (by omega), decide_eq_false (by simp)]
  | succ d ih =>
    intro i k hd hi hk
    obtain ⟨k, rfl⟩ : ∃ q, k = q + 1 := ⟨k - 1, by omega⟩
    have hil : i < l.length := by omega
    have hw : wrap64 ((i : Int) + 1) = ((i + 1 : Nat) : Int) := by rw [w64 (by omega) (by omega)]; omega
    rw [neonwrightlaw07_has.l0, if_pos (by omega), if_pos (by omega), rd_get _ _ hil, hw, List.drop_eq_getElem_cons hil]
    by_cases h : l[i] = x
    · rw [if_pos h, decide_eq_true (by rw [h]; exact List.mem_cons_self)]
    · rw [if_neg h, ih (i + 1) k (by omega) (by omega) (by omega)]
      congr 1
      by_cases h2 : x ∈ l.drop (i + 1)
      · rw [decide_eq_true h2, decide_eq_true (List.mem_cons_of_mem _ h2)]
      · rw [decide_eq_false h2, decide_eq_false (fun e => (List.mem_cons.1 e).elim (fun e => h e.symm) h2)]
theorem mem_nI {l : List Nat} {x : Nat} : (x : Int) ∈ nI l ↔ x ∈ l := by
  unfold nI
  rw [List.mem_map]
  constructor
  · rintro ⟨y, hy, e⟩
    have : y = x := by omega
    rw [← this]; exact hy
  · exact fun h => ⟨x, h, rfl⟩
theorem has_f (l : List Nat) (x : Nat) (hl : l.length ≤ 1000) (k : Nat) (hk : l.length < k) : neonwrightlaw07_has.f k (nI l) (x : Int) = some (decide (x ∈ l)) := by
  have e := has_l0 (nI l) (x : Int) (by simpa [nI] using hl) (nI l).length 0 k (by omega) (by omega) (by simp [nI]; omega)
  rw [List.drop_zero] at e
  refine e.trans ?_
  congr 1
  by_cases h : x ∈ l
  · rw [decide_eq_true h, decide_eq_true (mem_nI.2 h)]
  · rw [decide_eq_false h, decide_eq_false (fun e => h (mem_nI.1 e))]
theorem whereN_len (N : Nat) (ls : List S40) (os : List Int) (hok : okC (N : Int) ls os = true) (p : Nat → Bool) : (whereN (toC N ls os) p).length ≤ 44 := by
  have hs := okC_small hok
  unfold whereN
  refine Nat.le_trans (List.length_filter_le _ _) ?_
  rw [List.length_range, toC_lines]; omega
theorem mem_whereN {c : GT.C} {p : Nat → Bool} {f : Nat} : f ∈ whereN c p ↔ f < 2 * GT.lines c ∧ p (GT.shows c f) = true := by
  unfold whereN
  rw [List.mem_filter, List.mem_range]
theorem rshows_lt64 (N : Nat) (ls : List S40) (os : List Int) (hok : okC (N : Int) ls os = true) (f : Nat) : GT.shows (toC N ls os) f < 2 ^ 64 := by
  have hs := okC_small hok
  have h1 : GT.shows (toC N ls os) f < 2 ^ 2 ^ N := GT.wd_lt _ _
  exact Nat.lt_of_lt_of_le h1 (Nat.pow_le_pow_right (by decide) (pow6 (by omega)))
theorem memb_head {x : Nat} (hx : x < 2 ^ 64) : (x = 0 ∧ GT.memb x = []) ∨ ∃ v t, GT.memb x = v :: t ∧ v < 64 ∧ x.testBit v = true ∧ ∀ u, u < v → x.testBit u = false := by
  cases hm : GT.memb x with
  | nil =>
    left
    refine ⟨Nat.eq_of_testBit_eq fun i => ?_, rfl⟩
    rw [Nat.zero_testBit]
    cases h : x.testBit i with
    | false => rfl
    | true =>
      have := (GT.mem_memb hx).2 h
      rw [hm] at this
      simp at this
  | cons v t =>
    right
    have hv : v ∈ GT.memb x := by rw [hm]; exact List.mem_cons_self
    have hsort : (GT.memb x).Pairwise (· < ·) := (List.pairwise_lt_range).filter _
    rw [hm] at hsort
    refine ⟨v, t, rfl, List.mem_range.1 (List.mem_filter.1 hv).1, (GT.mem_memb hx).1 hv, fun u hu => ?_⟩
    cases h : x.testBit u with
    | false => rfl
    | true =>
      have h1 := (GT.mem_memb hx).2 h
      rw [hm] at h1
      rcases List.mem_cons.1 h1 with e | h1
      · omega
      · have := (List.pairwise_cons.1 hsort).1 u h1
        omega
theorem gate_Shown_ok (N : Nat) (ls : List S40) (os : List Int) (hok : okC (N : Int) ls os = true) (v : Nat) (hv : v < 2 ^ N) : gate_Shown.f (N : Int) ls os (v : Int) = some (nI (whereN (toC N ls os) (fun x => x.testBit v)), 0) := by
  unfold gate_Shown.f
  rw [if_pos ⟨hok, vecOk_nat.2 ⟨by omega, Int.ofNat_lt.2 hv⟩⟩, Int.toNat_natCast, Int.toNat_natCast]
theorem gate_Reply_ok (N : Nat) (ls : List S40) (os : List Int) (hok : okC (N : Int) ls os = true) (v : Nat) (hv : v < 2 ^ N) : gate_Reply.f (N : Int) ls os (v : Int) = some (((GT.reply (toC N ls os) none v : Nat) : Int), 0) := by
  unfold gate_Reply.f
  rw [if_pos ⟨hok, vecOk_nat.2 ⟨by omega, Int.ofNat_lt.2 hv⟩⟩, Int.toNat_natCast, Int.toNat_natCast]
theorem gate_Failed_ok (N : Nat) (ls : List S40) (os : List Int) (hok : okC (N : Int) ls os = true) (L a : Int) (hst : stuckOk (N + ls.length) L a) (v : Nat) (hv : v < 2 ^ N) : gate_Failed.f (N : Int) ls os L a (v : Int) = some (((GT.reply (toC N ls os) (some (2 * L + a).toNat) v : Nat) : Int), 0) := by
  unfold gate_Failed.f
  rw [if_pos ⟨hok, hst, vecOk_nat.2 ⟨by omega, Int.ofNat_lt.2 hv⟩⟩, Int.toNat_natCast, Int.toNat_natCast]
theorem gate_Hidden_ok (N : Nat) (ls : List S40) (os : List Int) (hok : okC (N : Int) ls os = true) : gate_Hidden.f (N : Int) ls os = some (nI (whereN (toC N ls os) (fun x => x == 0)), 0) := by
  unfold gate_Hidden.f
  rw [if_pos hok, Int.toNat_natCast]
end Go.Proofs.Ytelfalicickelaa.P
set_option linter.unusedSimpArgs false
set_option linter.unusedVariables false
namespace Go.Proofs.Ytelfalicickelaa.P
open Go.Lib Go.RowKit Go.Proofs.YtelfalicickelaaW.PrintWords Go.Proofs.YtelfalicickelaaW.PrintLast Go.Proofs.YtelfalicickelaaW.PrintMore Go.Proofs.Ytelfalicickelaa.Kit
theorem shows_l0 (N : Nat) (ls : List S40) (os : List Int) (hok : okC (N : Int) ls os = true) (L a : Int) (hst : stuckOk (N + ls.length) L a) (F : Nat) (hF : (2 * L + a).toNat = F) (x5 x6 : Int) (M : Nat) (hM : M ≤ 2 ^ N)
    (hb : ∀ i, i < M → (GT.shows (toC N ls os) F).testBit i = (decide (x6 = 0) && ((i : Int) == x5))) : ∀ (d i k : Nat), M - i = d → i ≤ M → d + 60 < k →
    neonwrightlaw07_GateShows.l0 k x5 x6 ((F : Nat) : Int) (M : Int) (i : Int) (N : Int) ls os L a = some true := by
  have hs := okC_small hok
  have hp := pow6 (N := N) (by omega)
  have hfl : F < 2 * GT.lines (toC N ls os) := by rw [toC_lines, ← hF]; exact (failN_ok hst).2
  have hfail : ∀ i : Nat, i < 2 ^ N → gate_Failed.f (N : Int) ls os L a (i : Int) = some (((GT.reply (toC N ls os) (some F) i : Nat) : Int), 0) := fun i hi => by rw [← hF]; exact gate_Failed_ok N ls os hok L a hst i hi
  have hmem : ∀ i, decide (F ∈ whereN (toC N ls os) (fun x => x.testBit i)) = (GT.shows (toC N ls os) F).testBit i := fun i => by
    cases hx : (GT.shows (toC N ls os) F).testBit i with
    | true => exact decide_eq_true (mem_whereN.2 ⟨hfl, hx⟩)
    | false => exact decide_eq_false (fun e => by have := (mem_whereN.1 e).2; simp only [hx] at this; cases this)
  have hiN' : ∀ i, i < M → i < 2 ^ N := fun i h => Nat.lt_of_lt_of_le h hM
  have hM64 : M ≤ 64 := Nat.le_trans hM hp
  clear hF hst hfl hp hM hs
  intro d
  induction d with
  | zero =>
    intro i k hd hi hk
    obtain ⟨k, rfl⟩ : ∃ q, k = q + 1 := ⟨k - 1, by omega⟩
    rw [neonwrightlaw07_GateShows.l0, if_neg (by omega), alive_f, Option.bind_some]
  | succ d ih =>
    intro i k hd hi hk
    obtain ⟨k, rfl⟩ : ∃ q, k = q + 1 := ⟨k - 1, by omega⟩
    have hw : wrap64 ((i : Int) + 1) = ((i + 1 : Nat) : Int) := by rw [w64 (by omega) (by omega)]; omega
    have hiM : i < M := by omega
    have hiN : i < 2 ^ N := hiN' i hiM
    have h1 := ih (i + 1) k (by omega) (by omega) (by omega)
    have hbi := hb i hiM
    have hsb := shows_bit (toC N ls os) F i
    rw [decide_eq_true (show i < 2 ^ (toC N ls os).n from hiN), Bool.true_and, hbi] at hsb
    rw [neonwrightlaw07_GateShows.l0, if_pos (by omega), gate_Shown_ok N ls os hok i hiN, Option.bind_some, gate_Reply_ok N ls os hok i hiN, Option.bind_some, hfail i hiN, Option.bind_some]
    dsimp only
    rw [has_f _ _ (by have := whereN_len N ls os hok (fun x => x.testBit i); omega) k (by have := whereN_len N ls os hok (fun x => x.testBit i); omega), hmem i, hbi, hw]
    have hne : (((GT.reply (toC N ls os) none i : Nat) : Int) != ((GT.reply (toC N ls os) (some F) i : Nat) : Int)) = (decide (x6 = 0) && ((i : Int) == x5)) := by
      rw [hsb, Bool.eq_iff_iff, bne_iff_ne, decide_eq_true_iff]
      constructor
      · exact fun h e => h (by rw [e])
      · exact fun h e => h (by omega)
    by_cases h6 : x6 = 0
    · rw [if_pos h6, if_pos rfl, if_pos rfl, if_pos rfl, Option.bind_some, hne, decide_eq_true h6, Bool.true_and, if_neg (by simp), if_neg (by simp)]
      exact h1
    · rw [if_neg h6, if_pos rfl, if_pos rfl, if_pos rfl, Option.bind_some, hne, decide_eq_false h6, Bool.false_and, if_neg (by decide), if_neg (by decide)]
      exact h1
end Go.Proofs.Ytelfalicickelaa.P
namespace Go.Proofs.Ytelfalicickelaa.Pure
open Go.RowKit Go.Proofs.Ytelfalicickelaa.P Go.Proofs.YtelfalicickelaaW.PrintWords Go.Proofs.YtelfalicickelaaW.PrintLast Go.Proofs.YtelfalicickelaaW.PrintMore Go.Proofs.Ytelfalicickelaa.Kit
theorem GateShows (n : Int) (ls : List S40) (os : List Int) (L a : Int) (w0 : (Lit.int .i64 n).wf = true) : ∃ k, neonwrightlaw07_GateShows.f k n ls os L a = some true := by
  refine ⟨3003, ?_⟩
  unfold neonwrightlaw07_GateShows.f
  rw [few_f, Option.bind_some]
  by_cases h : isFew ls os = true
  · rw [if_pos h]
    by_cases hok : okC n ls os = true
    · obtain ⟨N, rfl⟩ := okC_nat hok
      have hs := okC_small hok
      have hp := pow6 (N := N) (by omega)
      by_cases hst : stuckOk (N + ls.length) L a
      · have hst' := hst
        unfold stuckOk at hst'
        have hfl : (2 * L + a).toNat < 2 * GT.lines (toC N ls os) := by rw [toC_lines]; exact (failN_ok hst).2
        have hno : wrap64 (wrap64 (2 * L) + a) = (((2 * L + a).toNat : Nat) : Int) := by rw [w64 (x := 2 * L) (by omega) (by omega), w64 (by omega) (by omega)]; omega
        have hx := rshows_lt64 N ls os hok (2 * L + a).toNat
        have hT : gate_Test.f (N : Int) ls os L a = some (match GT.memb (GT.shows (toC N ls os) (2 * L + a).toNat) with | [] => (0, 10) | v :: _ => ((v : Int), 0)) := by
          unfold gate_Test.f
          rw [Int.toNat_natCast, if_pos ⟨hok, hst⟩]
          cases GT.memb (GT.shows (toC N ls os) (2 * L + a).toNat) <;> rfl
        have hsh : shl .i64 1 (N : Int) = ((2 ^ N : Nat) : Int) := shl1n (by omega)
        rw [hT, Option.bind_some, gate_Hidden_ok N ls os hok, Option.bind_some, if_pos rfl, stuck_f N (by omega) ls (by omega), Option.bind_some, decide_eq_true hst, show (3003 : Nat) = 3002 + 1 from rfl, neonwrightlaw07_GateShows.j0, if_neg (by decide), hno, has_f _ _ (by have := whereN_len N ls os hok (fun x => x == 0); omega) 3002 (by have := whereN_len N ls os hok (fun x => x == 0); omega), Option.bind_some]
        rcases memb_head hx with ⟨h0, hm⟩ | ⟨v, t, hm, hv, hb, hmin⟩
        · rw [decide_eq_true (mem_whereN.2 ⟨hfl, by rw [h0]; rfl⟩), hm]
          dsimp only
          rw [if_neg (by decide), if_neg (by decide), show (3002 : Nat) = 3001 + 1 from rfl, neonwrightlaw07_GateShows.j1, if_neg (by decide), if_pos (by omega), if_neg (by decide), hsh, show (3001 : Nat) = 3000 + 1 from rfl, neonwrightlaw07_GateShows.j2]
          exact shows_l0 N ls os hok L a hst _ rfl 0 10 (2 ^ N) (Nat.le_refl _) (fun i hi => by rw [h0, Nat.zero_testBit]; rfl) (2 ^ N) 0 3000 (Nat.sub_zero _) (Nat.zero_le _) (by omega)
        · have hvN : v < 2 ^ N := by
            have := shows_bit (toC N ls os) (2 * L + a).toNat v
            rw [hb] at this
            have h2 := ((Bool.and_eq_true _ _).mp this.symm).1
            exact of_decide_eq_true h2
          rw [decide_eq_false (fun e => by
            have := (mem_whereN.1 e).2
            have e0 : GT.shows (toC N ls os) (2 * L + a).toNat = 0 := by simpa using this
            rw [e0, Nat.zero_testBit] at hb; cases hb), hm]
          dsimp only
          rw [if_neg (by decide), if_pos rfl, show (3002 : Nat) = 3001 + 1 from rfl, neonwrightlaw07_GateShows.j1, if_neg (by decide), if_pos (by omega), if_pos rfl, show wrap64 ((v : Int) + 1) = ((v + 1 : Nat) : Int) from (by rw [w64 (by omega) (by omega)]; omega), show (3001 : Nat) = 3000 + 1 from rfl, neonwrightlaw07_GateShows.j2]
          exact shows_l0 N ls os hok L a hst _ rfl (v : Int) 0 (v + 1) (by omega) (fun i hi => by
            rw [decide_eq_true rfl, Bool.true_and]
            by_cases e : i = v
            · rw [e, hb]; simp
            · rw [hmin i (by omega)]
              exact (beq_eq_false_iff_ne.2 (by omega)).symm) (v + 1) 0 3000 (by omega) (by omega) (by omega)
      · have hT : gate_Test.f (N : Int) ls os L a = some (0, 2) := by
          unfold gate_Test.f
          rw [Int.toNat_natCast, if_neg (fun e => hst e.2)]
        rw [hT, Option.bind_some, gate_Hidden_ok N ls os hok, Option.bind_some, if_pos rfl, stuck_f N (by omega) ls (by omega), Option.bind_some, decide_eq_false hst, show (3003 : Nat) = 3002 + 1 from rfl, neonwrightlaw07_GateShows.j0, if_pos (by decide), if_pos rfl, if_pos rfl, alive_f, Option.bind_some]
    · have hT : gate_Test.f n ls os L a = some (0, 2) := by
        unfold gate_Test.f
        rw [if_neg (fun e => hok e.1)]
      have hH : gate_Hidden.f n ls os = some ([], 2) := by
        unfold gate_Hidden.f
        rw [if_neg hok]
      rw [hT, Option.bind_some, hH, Option.bind_some, if_neg (by decide), show (3003 : Nat) = 3002 + 1 from rfl, neonwrightlaw07_GateShows.j0, if_pos rfl, if_pos rfl, if_pos rfl, alive_f, Option.bind_some]
  · rw [if_neg h, alive_f, Option.bind_some]
end Go.Proofs.Ytelfalicickelaa.Pure
