/- Texts of this claim, merged by a program (shake.py): what the last theorems reach of RCirc, RBase, RRef, GateN2, PureGateMade. -/
import Derived.Test.YtelfalicickelaaKB2
import Derived.Test.YtelfalicickelaaKB3
import Derived.Test.YtelfalicickelaaKGateMade2
import Derived.Test.YtelfalicickelaaKB1
import Derived.Test.YtelfalicickelaaKGateMade1
import Derived.Test.YtelfalicickelaaKB8
import Derived.Test.YtelfalicickelaaKGateMade3
import Derived.Test.YtelfalicickelaaKGateMade5
import Derived.Test.YtelfalicickelaaKGateMade6
set_option linter.unusedSimpArgs false
set_option linter.unusedVariables false
namespace Go.Proofs.Ytelfalicickelaa.P
open Go.Lib Go.RowKit Go.Proofs.YtelfalicickelaaW.PrintWords Go.Proofs.YtelfalicickelaaW.PrintLast Go.Proofs.YtelfalicickelaaW.PrintMore Go.Proofs.Ytelfalicickelaa.Kit
theorem rcirc_l1 (N : Nat) (ls : List S40) (os : List Int) (hN : N ≤ 6) (hl : ls.length ≤ 16) (ho : os.length ≤ 4) : ∀ (d i k : Nat), os.length - i = d → i ≤ os.length → d < k →
    neonwrightref07_Circuit.l1 k (i : Int) (N : Int) ls os = some (!(os.drop i).any (badL (N + ls.length))) := by
  intro d
  induction d with
  | zero =>
    intro i k hd hi hk
    obtain ⟨k, rfl⟩ : ∃ q, k = q + 1 := ⟨k - 1, by omega⟩
    simp only [neonwrightref07_Circuit.l1]
    rw [if_neg (by omega), List.drop_eq_nil_of_le (by omega)]
    rfl
  | succ d ih =>
    intro i k hd hi hk
    obtain ⟨k, rfl⟩ : ∃ q, k = q + 1 := ⟨k - 1, by omega⟩
    have hil : i < os.length := by omega
    have hw : ∀ _ : Unit, wrap64 ((i : Int) + 1) = ((i + 1 : Nat) : Int) := fun _ => by rw [w64 (by omega) (by omega)]; omega
    have hw2 : ∀ _ : Unit, wrap64 ((N : Int) + (ls.length : Int)) = ((N + ls.length : Nat) : Int) := fun _ => by rw [w64 (by omega) (by omega)]; omega
    simp only [neonwrightref07_Circuit.l1, neonwrightref07_Lines.f, Option.bind_some]
    rw [if_pos (by omega), if_pos (by omega), rd_get _ _ hil, hw2 (), hw (), List.drop_eq_getElem_cons hil, List.any_cons]
    by_cases h1 : os[i] < 0
    · rw [if_pos h1]
      simp [badL, h1]
    · rw [if_neg h1]
      by_cases h2 : os[i] ≥ ((N + ls.length : Nat) : Int)
      · rw [if_pos h2]
        have : badL (N + ls.length) os[i] = true := by unfold badL; rw [decide_eq_true (p := ((N + ls.length : Nat) : Int) ≤ os[i]) h2, Bool.or_true]
        rw [this]; rfl
      · rw [if_neg h2, ih (i + 1) k (by omega) (by omega) (by omega)]
        have : badL (N + ls.length) os[i] = false := by unfold badL; rw [decide_eq_false h1, decide_eq_false (p := ((N + ls.length : Nat) : Int) ≤ os[i]) (by omega)]; rfl
        rw [this, Bool.false_or]
theorem rcirc_l0 (N : Nat) (ls : List S40) (os : List Int) (hN1 : 1 ≤ N) (hN : N ≤ 6) (hl : ls.length ≤ 16) (ho : os.length ≤ 4) : ∀ (d i k : Nat), ls.length - i = d → i ≤ ls.length → d + 6 < k →
    neonwrightref07_Circuit.l0 k (i : Int) (N : Int) ls os = some ((List.range' i d).all (fun j => gateOk N j (ls.getD j z40)) && !os.any (badL (N + ls.length))) := by
  intro d
  induction d with
  | zero =>
    intro i k hd hi hk
    obtain ⟨k, rfl⟩ : ∃ q, k = q + 1 := ⟨k - 1, by omega⟩
    simp only [neonwrightref07_Circuit.l0]
    rw [if_neg (by omega)]
    have := rcirc_l1 N ls os hN hl ho os.length 0 k (by omega) (by omega) (by omega)
    rw [List.drop_zero] at this
    refine this.trans ?_
    rfl
  | succ d ih =>
    intro i k hd hi hk
    obtain ⟨k, rfl⟩ : ∃ q, k = q + 1 := ⟨k - 1, by omega⟩
    have hil : i < ls.length := by omega
    have hw : ∀ _ : Unit, wrap64 ((i : Int) + 1) = ((i + 1 : Nat) : Int) := fun _ => by rw [w64 (by omega) (by omega)]; omega
    have hw2 : ∀ _ : Unit, wrap64 ((N : Int) + (i : Int)) = ((N + i : Nat) : Int) := fun _ => by rw [w64 (by omega) (by omega)]; omega
    have hrd : rd_T40 ls (i : Int) = ls.getD i z40 := by unfold rd_T40; rw [Int.toNat_natCast]
    simp only [neonwrightref07_Circuit.l0]
    rw [if_pos (by omega), if_pos (by omega), hrd, hw2 (), hw (), List.range'_succ, List.all_cons]
    have h1 := ih (i + 1) k (by omega) (by omega) (by omega)
    generalize ls.getD i z40 = s at *
    have hno : gateOk N i s = false → some false = some ((gateOk N i s && (List.range' (i + 1) d).all fun j => gateOk N j (ls.getD j z40)) && !os.any (badL (N + ls.length))) := fun h => by rw [h]; rfl
    have hyes : gateOk N i s = true → neonwrightref07_Circuit.l0 k ((i + 1 : Nat) : Int) (N : Int) ls os = some ((gateOk N i s && (List.range' (i + 1) d).all fun j => gateOk N j (ls.getD j z40)) && !os.any (badL (N + ls.length))) := fun h => by rw [h, Bool.true_and]; exact h1
    have hg : gateOk N i s = decide ((0 ≤ s.f0 ∧ s.f0 ≤ 5) ∧ (0 ≤ s.f1 ∧ s.f1 < ((N + i : Nat) : Int)) ∧ (0 ≤ s.f2 ∧ s.f2 < ((N + i : Nat) : Int)) ∧ (s.f0 = 5 → s.f2 = 0)) := by
      unfold gateOk readsL
      by_cases h5 : s.f0 = 5
      · rw [if_pos h5]
        rw [Bool.eq_iff_iff]
        simp [badL, h5] <;> omega
      · rw [if_neg h5]
        rw [Bool.eq_iff_iff]
        simp [badL, h5] <;> omega
    clear ih h1
    repeat' (split <;> first | (refine hno ?_; rw [hg]; exact decide_eq_false (by omega)) | skip)
    all_goals first
      | (refine hyes ?_; rw [hg]; exact decide_eq_true (by omega))
      | (refine hno ?_; rw [hg]; exact decide_eq_false (by omega))
theorem rCircuit_f (n : Int) (ls : List S40) (os : List Int) (k : Nat) (hk : 40 ≤ k) : neonwrightref07_Circuit.f k n ls os = some (okC n ls os) := by
  obtain ⟨k, rfl⟩ : ∃ q, k = q + 1 := ⟨k - 1, by omega⟩
  have hb : ∀ b, b = true → neonwrightref07_Circuit.j0 (k + 1) b n ls os = some false := fun b h => by simp only [neonwrightref07_Circuit.j0]; rw [if_pos h]
  by_cases hs : 1 ≤ n ∧ n ≤ 6 ∧ ls.length ≤ 16 ∧ 1 ≤ os.length ∧ os.length ≤ 4
  · obtain ⟨N, rfl⟩ := Int.eq_ofNat_of_zero_le (show 0 ≤ n by omega)
    unfold neonwrightref07_Circuit.f okC
    rw [if_neg (by omega), if_neg (by omega), if_neg (by omega), if_neg (by omega), decide_eq_true hs, Bool.true_and, Int.toNat_natCast]
    simp only [neonwrightref07_Circuit.j0]
    rw [if_neg (by simp; omega)]
    refine (rcirc_l0 N ls os (by omega) (by omega) (by omega) (by omega) ls.length 0 k (by omega) (by omega) (by omega)).trans ?_
    unfold gatesOk
    rw [List.range_eq_range']
  · have : okC n ls os = false := by unfold okC; rw [decide_eq_false hs]; rfl
    rw [this]
    unfold neonwrightref07_Circuit.f
    by_cases h1 : n < 1
    · rw [if_pos h1, hb true rfl]
    · rw [if_neg h1]
      by_cases h2 : n > 6
      · rw [if_pos h2, hb true rfl]
      · rw [if_neg h2]
        by_cases h3 : (ls.length : Int) > 16
        · rw [if_pos h3, hb true rfl]
        · rw [if_neg h3]
          by_cases h4 : (os.length : Int) < 1
          · rw [if_pos h4, hb true rfl]
          · rw [if_neg h4, hb _ (decide_eq_true (by omega))]
end Go.Proofs.Ytelfalicickelaa.P
set_option linter.unusedSimpArgs false
set_option linter.unusedVariables false
namespace Go.Proofs.Ytelfalicickelaa.P
open Go.Lib Go.RowKit Go.Proofs.YtelfalicickelaaW.PrintWords Go.Proofs.YtelfalicickelaaW.PrintLast Go.Proofs.YtelfalicickelaaW.PrintMore Go.Proofs.Ytelfalicickelaa.Kit
def isFew (ls : List S40) (os : List Int) : Bool := decide (ls.length ≤ 40) && decide (os.length ≤ 40)
theorem few_f (n : Int) (ls : List S40) (os : List Int) : neonwrightlaw07_few.f n ls os = some (isFew ls os) := by
  unfold neonwrightlaw07_few.f isFew
  by_cases h : ls.length ≤ 40
  · rw [if_pos (by omega), decide_eq_true h, Bool.true_and]
    congr 1
    by_cases h2 : os.length ≤ 40
    · rw [decide_eq_true h2, decide_eq_true (by omega)]
    · rw [decide_eq_false h2, decide_eq_false (by omega)]
  · rw [if_neg (by omega), decide_eq_false h, Bool.false_and]
theorem alive_f : neonwrightlaw07_alive.f = some true := rfl
theorem lines_f (N : Nat) (hN : N ≤ 6) (ls : List S40) (hl : ls.length ≤ 100) (os : List Int) : neonwrightref07_Lines.f (N : Int) ls os = some ((N + ls.length : Nat) : Int) := by
  unfold neonwrightref07_Lines.f
  rw [w64 (by omega) (by omega)]
  congr 1
theorem stuck_f (N : Nat) (hN : N ≤ 6) (ls : List S40) (hl : ls.length ≤ 16) (os : List Int) (L a : Int) : neonwrightref07_IsStuck.f (N : Int) ls os L a = some (decide (stuckOk (N + ls.length) L a)) := by
  have hi : stuckOk (N + ls.length) L a ↔ 0 ≤ L ∧ L < ((N + ls.length : Nat) : Int) ∧ 0 ≤ a ∧ a ≤ 1 := Iff.rfl
  unfold neonwrightref07_IsStuck.f
  rw [lines_f N hN ls (by omega), Option.bind_some]
  by_cases h : 0 ≤ L
  · rw [if_pos h]
    by_cases h2 : L < ((N + ls.length : Nat) : Int)
    · rw [if_pos h2]
      by_cases h3 : a = 0
      · rw [if_pos h3, decide_eq_true (hi.2 (by omega))]
      · rw [if_neg h3]
        congr 1
        by_cases h4 : a = 1
        · rw [decide_eq_true (hi.2 (by omega)), h4]; rfl
        · rw [decide_eq_false (fun e => by have := hi.1 e; omega)]
          exact beq_eq_false_iff_ne.2 h4
    · rw [if_neg h2, decide_eq_false (fun e => by have := hi.1 e; omega)]
  · rw [if_neg h, decide_eq_false (fun e => by have := hi.1 e; omega)]
theorem okC_nat {n : Int} {ls : List S40} {os : List Int} (h : okC n ls os = true) : ∃ N : Nat, n = (N : Int) := ⟨n.toNat, by have := okC_small h; omega⟩
end Go.Proofs.Ytelfalicickelaa.P
set_option linter.unusedSimpArgs false
set_option linter.unusedVariables false
namespace Go.Proofs.Ytelfalicickelaa.P
open Go.Lib Go.RowKit Go.Proofs.YtelfalicickelaaW.PrintWords Go.Proofs.YtelfalicickelaaW.PrintLast Go.Proofs.YtelfalicickelaaW.PrintMore Go.Proofs.Ytelfalicickelaa.Kit
theorem shows_bit (c : GT.C) (f v : Nat) : (GT.shows c f).testBit v = (decide (v < 2 ^ c.n) && decide (GT.reply c (some f) v ≠ GT.reply c none v)) := GT.wd_bit _ _ _
end Go.Proofs.Ytelfalicickelaa.P
namespace Go.Proofs.Ytelfalicickelaa.GT
theorem gv_not (k : Nat) (x y y' : Bool) (h : k = 5) : gv k x y = gv k x y' := by subst h; rfl
def mad (c : C) (f : Nat) (x : Nat) : Nat := if x = f / 2 then c.n + f % 2 else if c.n ≤ x then x + 2 else x
def madeC (c : C) (f : Nat) : C :=
  ⟨c.n, ⟨2, 0, 0⟩ :: ⟨5, c.n, 0⟩ :: c.gs.map fun g => ⟨g.k, mad c f g.a, if g.k = 5 then 0 else mad c f g.b⟩, c.os.map (mad c f)⟩
theorem mad_lt {c : C} (f x i : Nat) (h : x < c.n + i) : mad c f x < c.n + (i + 2) := by unfold mad; split <;> (try split) <;> omega
theorem madeC_ok {c : C} (hc : Ok c) (f : Nat) (h14 : c.gs.length ≤ 14) : Ok (madeC c f) where
  n1 := hc.n1
  n6 := hc.n6
  g16 := by show (_ :: _ :: List.map _ _).length ≤ 16; simp; omega
  o1 := by show 1 ≤ (List.map _ _).length; rw [List.length_map]; exact hc.o1
  o4 := by show (List.map _ _).length ≤ 4; rw [List.length_map]; exact hc.o4
  g := by
    have h1 := hc.n1
    intro i h
    match i, h with
    | 0, h => exact ⟨by show 2 ≤ 5; decide, by show 0 < c.n + 0; omega, by show 0 < c.n + 0; omega, fun e => rfl⟩
    | 1, h => exact ⟨by show 5 ≤ 5; decide, by show c.n < c.n + 1; omega, by show 0 < c.n + 1; omega, fun e => rfl⟩
    | i + 2, h =>
      have hi : i < c.gs.length := by simpa [madeC] using h
      obtain ⟨g1, g2, g3, g4⟩ := hc.g i hi
      have e : (madeC c f).gs[i + 2] = ⟨c.gs[i].k, mad c f c.gs[i].a, if c.gs[i].k = 5 then 0 else mad c f c.gs[i].b⟩ := by simp [madeC]
      rw [e]
      refine ⟨g1, mad_lt f _ i g2, ?_, fun e => if_pos e⟩
      show (if c.gs[i].k = 5 then 0 else mad c f c.gs[i].b) < c.n + (i + 2)
      split
      · omega
      · exact mad_lt f _ i g3
  o := by
    intro x hx
    obtain ⟨y, hy, rfl⟩ := List.mem_map.1 hx
    have := mad_lt (c := c) f y c.gs.length (hc.o y hy)
    show mad c f y < c.n + (_ :: _ :: List.map _ _).length
    simpa using this
theorem made_vals {c : C} (hc : Ok c) (f : Nat) (h14 : c.gs.length ≤ 14) (v : Nat) : ∀ j, j < lines c → (vals (madeC c f) none v).getD (mad c f j) false = (vals c (some f) v).getD j false := by
  have hd := madeC_ok hc f h14
  have hlen : (madeC c f).gs.length = c.gs.length + 2 := by simp [madeC]
  have hz : (vals (madeC c f) none v).getD c.n false = false := by
    have := vals_gate hd none v (i := 0) (by omega)
    rw [show (madeC c f).n + 0 = c.n from rfl] at this
    rw [this]
    show (_ ^^ _) = false
    exact Bool.xor_self _
  have ho : (vals (madeC c f) none v).getD (c.n + 1) false = true := by
    have := vals_gate hd none v (i := 1) (by omega)
    rw [show (madeC c f).n + 1 = c.n + 1 from rfl] at this
    rw [this]
    show (!(vals (madeC c f) none v).getD c.n false) = true
    rw [hz]
    rfl
  intro j
  induction j using Nat.strongRecOn with
  | ind j ih =>
    intro hj
    by_cases hjf : j = f / 2
    · have hm : mad c f j = c.n + f % 2 := by unfold mad; rw [if_pos hjf]
      have hr : (vals c (some f) v).getD j false = (f % 2 == 1) := by
        by_cases h : j < c.n
        · rw [vals_in c _ v h]; exact put_pos _ hjf.symm
        · obtain ⟨q, rfl⟩ : ∃ q, j = c.n + q := ⟨j - c.n, by omega⟩
          rw [vals_gate hc _ v (i := q) (by have := hj; unfold lines at this; omega)]; exact put_pos _ hjf.symm
      rw [hm, hr]
      rcases Nat.mod_two_eq_zero_or_one f with e | e
      · rw [e]; exact hz
      · rw [e]; exact ho
    · by_cases h : j < c.n
      · have hm : mad c f j = j := by unfold mad; rw [if_neg hjf, if_neg (by omega)]
        rw [hm, vals_in (madeC c f) _ v h, vals_in c _ v h]
        rw [put_none, put_neg _ (by omega)]
      · obtain ⟨q, rfl⟩ : ∃ q, j = c.n + q := ⟨j - c.n, by omega⟩
        have hq : q < c.gs.length := by unfold lines at hj; omega
        obtain ⟨g1, g2, g3, g4⟩ := hc.g q hq
        have hm : mad c f (c.n + q) = (madeC c f).n + (q + 2) := by unfold mad; rw [if_neg hjf, if_pos (by omega)]; rfl
        have e : (madeC c f).gs[q + 2]'(by omega) = ⟨c.gs[q].k, mad c f c.gs[q].a, if c.gs[q].k = 5 then 0 else mad c f c.gs[q].b⟩ := by simp [madeC]
        rw [hm, vals_gate hd none v (i := q + 2) (by omega), vals_gate hc _ v hq, e]
        rw [put_none, put_neg _ (fun e => hjf e.symm)]
        show gv c.gs[q].k ((vals (madeC c f) none v).getD (mad c f c.gs[q].a) false) ((vals (madeC c f) none v).getD (if c.gs[q].k = 5 then 0 else mad c f c.gs[q].b) false) = _
        rw [ih c.gs[q].a (by omega) (by unfold lines; omega)]
        by_cases hk : c.gs[q].k = 5
        · exact gv_not _ _ _ _ hk
        · rw [if_neg hk, ih c.gs[q].b (by omega) (by unfold lines; omega)]
theorem made_reply {c : C} (hc : Ok c) (f : Nat) (h14 : c.gs.length ≤ 14) (v : Nat) : reply (madeC c f) none v = reply c (some f) v := by
  unfold reply outs
  congr 1
  show List.map _ (List.map _ _) = _
  rw [List.map_map]
  refine List.map_congr_left fun o ho => ?_
  exact made_vals hc f h14 v o (hc.o o ho)
end Go.Proofs.Ytelfalicickelaa.GT
set_option linter.unusedSimpArgs false
set_option linter.unusedVariables false
namespace Go.Proofs.Ytelfalicickelaa.P
open Go.Lib Go.RowKit Go.Proofs.YtelfalicickelaaW.PrintWords Go.Proofs.YtelfalicickelaaW.PrintLast Go.Proofs.YtelfalicickelaaW.PrintMore Go.Proofs.Ytelfalicickelaa.Kit
theorem diffW_bit (c d : GT.C) (hn : d.n = c.n) (ho : d.os.length = c.os.length) (v : Nat) : (diffW c d).testBit v = (decide (v < 2 ^ c.n) && decide (GT.reply c none v ≠ GT.reply d none v)) := by
  unfold diffW
  rw [Bool.eq_iff_iff, shTo_bit, Bool.and_eq_true, decide_eq_true_iff, decide_eq_true_iff]
  have hg : ∀ (e : GT.C) j, j < e.os.length → ((GT.outsW e none).getD j 0).testBit v = (decide (v < 2 ^ e.n) && (GT.vals e none v).getD e.os[j]! false) := fun e j hj => by
    rw [outsW_get _ _ hj]
    unfold GT.wline
    rw [GT.wd_bit]
    simp [hj]
  by_cases hv : v < 2 ^ c.n
  · have hr : GT.reply c none v = GT.reply d none v ↔ ∀ j, j < c.os.length → ((GT.outsW c none).getD j 0).testBit v = ((GT.outsW d none).getD j 0).testBit v := by
      rw [← outsW_reply c none v hv, ← outsW_reply d none v (by rw [hn]; exact hv)]
      constructor
      · intro e j hj
        have h1 := GT.num_inj (by rw [List.length_map, List.length_map, outsW_length, outsW_length, ho]) e
        have h2 : ((GT.outsW c none).map fun w => w.testBit v)[j]? = ((GT.outsW d none).map fun w => w.testBit v)[j]? := by rw [h1]
        have l1 : j < (GT.outsW c none).length := by rw [outsW_length]; exact hj
        have l2 : j < (GT.outsW d none).length := by rw [outsW_length, ho]; exact hj
        rw [List.getElem?_map, List.getElem?_map, List.getElem?_eq_getElem l1, List.getElem?_eq_getElem l2] at h2
        simp only [Option.map_some, Option.some.injEq] at h2
        rw [List.getD_eq_getElem?_getD, List.getD_eq_getElem?_getD, List.getElem?_eq_getElem l1, List.getElem?_eq_getElem l2]
        exact h2
      · intro h
        congr 1
        refine List.ext_getElem (by rw [List.length_map, List.length_map, outsW_length, outsW_length, ho]) fun j h1 h2 => ?_
        rw [List.getElem_map, List.getElem_map]
        have l1 : j < (GT.outsW c none).length := by simpa using h1
        have l2 : j < (GT.outsW d none).length := by simpa using h2
        have := h j (by rw [outsW_length] at l1; exact l1)
        rw [List.getD_eq_getElem?_getD, List.getD_eq_getElem?_getD, List.getElem?_eq_getElem l1, List.getElem?_eq_getElem l2] at this
        exact this
    constructor
    · rintro ⟨j, hj, hne⟩
      exact ⟨hv, fun e => hne (hr.1 e j hj)⟩
    · rintro ⟨_, hne⟩
      refine Classical.byContradiction fun hno => hne (hr.2 fun j hj => ?_)
      refine Classical.byContradiction fun h => hno ⟨j, hj, h⟩
  · constructor
    · rintro ⟨j, hj, hne⟩
      exfalso
      apply hne
      rw [hg c j hj, hg d j (by omega), hn, decide_eq_false hv, Bool.false_and, Bool.false_and]
    · rintro ⟨h, _⟩
      exact absurd h hv
theorem gateOk_nat {N i k a b : Nat} (hk : k ≤ 5) (ha : a < N + i) (hb : b < N + i) (h5 : k = 5 → b = 0) : gateOk N i ⟨(k : Int), (a : Int), (b : Int)⟩ = true := by
  unfold gateOk
  rw [Bool.and_eq_true, Bool.and_eq_true, decide_eq_true_iff]
  refine ⟨by dsimp only; omega, ?_, ?_⟩
  · rw [Bool.not_eq_true', Bool.and_eq_false_iff]
    by_cases h : k = 5
    · right
      have := h5 h
      exact decide_eq_false (by dsimp only; omega)
    · left
      exact decide_eq_false (by dsimp only; omega)
  · rw [Bool.not_eq_true']
    unfold readsL badL
    dsimp only
    split <;> simp <;> omega
def mdS (N F : Nat) (s : S40) : S40 := ⟨s.f0, ((GT.mad ⟨N, [], []⟩ F s.f1.toNat : Nat) : Int), if s.f0 = 5 then 0 else ((GT.mad ⟨N, [], []⟩ F s.f2.toNat : Nat) : Int)⟩
def mdL (N F : Nat) (ls : List S40) : List S40 := [(⟨2, 0, 0⟩ : S40), (⟨5, (N : Int), 0⟩ : S40)] ++ ls.map (mdS N F)
def mdO (N F : Nat) (os : List Int) : List Int := os.map fun o => ((GT.mad ⟨N, [], []⟩ F o.toNat : Nat) : Int)
theorem toC_made (N : Nat) (ls : List S40) (os : List Int) (hok : okC (N : Int) ls os = true) (F : Nat) : toC N (mdL N F ls) (mdO N F os) = GT.madeC (toC N ls os) F := by
  unfold toC GT.madeC mdL mdO
  congr 1
  · rw [List.map_append, List.map_map]
    show [toG ⟨2, 0, 0⟩, toG ⟨5, (N : Int), 0⟩] ++ _ = _
    have e1 : toG ⟨5, (N : Int), 0⟩ = ⟨5, N, 0⟩ := by unfold toG; dsimp only; rw [Int.toNat_natCast]; rfl
    rw [e1]
    show _ :: _ :: _ = _ :: _ :: _
    congr 2
    show List.map (toG ∘ mdS N F) ls = (ls.map toG).map _
    rw [List.map_map]
    refine List.map_congr_left fun s hs => ?_
    obtain ⟨i, hi, rfl⟩ := List.mem_iff_getElem.1 hs
    have hN := okC_small hok
    obtain ⟨k, a, b, e, h1, h2, h3, h4⟩ := gate_nat (N := N) (by omega) (gatesOk_at (okC_gates hok).1 hi)
    rw [e]
    unfold Function.comp mdS toG
    dsimp only
    rw [Int.toNat_natCast, Int.toNat_natCast, Int.toNat_natCast, Int.toNat_natCast]
    by_cases h5 : k = 5
    · rw [if_pos (by omega), if_pos h5]; rfl
    · rw [if_neg (by omega), if_neg h5, Int.toNat_natCast]; rfl
  · rw [List.map_map, List.map_map]
    refine List.map_congr_left fun o ho => ?_
    unfold Function.comp
    rw [Int.toNat_natCast]
    rfl
theorem okC_made (N : Nat) (ls : List S40) (os : List Int) (hok : okC (N : Int) ls os = true) (F : Nat) (h14 : ls.length ≤ 14) (hF : F < 2 * (N + ls.length)) : okC (N : Int) (mdL N F ls) (mdO N F os) = true := by
  have hs := okC_small hok
  have hN : 1 ≤ N := by omega
  have hml : (mdL N F ls).length = ls.length + 2 := by simp [mdL]
  have hmo : (mdO N F os).length = os.length := by simp [mdO]
  have hmad : ∀ x i, x < N + i → GT.mad ⟨N, [], []⟩ F x < N + (i + 2) := fun x i h => GT.mad_lt (c := ⟨N, [], []⟩) F x i h
  unfold okC
  rw [Bool.and_eq_true, Bool.and_eq_true, decide_eq_true_iff, hml, hmo, Int.toNat_natCast]
  refine ⟨by omega, ?_, ?_⟩
  · unfold gatesOk
    rw [List.all_eq_true]
    intro i hi
    have hi' := List.mem_range.1 hi
    rw [hml] at hi'
    unfold mdL
    match i, hi' with
    | 0, _ =>
      show gateOk N 0 ⟨2, 0, 0⟩ = true
      exact gateOk_nat (k := 2) (a := 0) (b := 0) (by decide) (by omega) (by omega) (by decide)
    | 1, _ =>
      show gateOk N 1 ⟨5, (N : Int), 0⟩ = true
      exact gateOk_nat (k := 5) (a := N) (b := 0) (by decide) (by omega) (by omega) (fun _ => rfl)
    | i + 2, h =>
      have hil : i < ls.length := by omega
      have e : ([(⟨2, 0, 0⟩ : S40), (⟨5, (N : Int), 0⟩ : S40)] ++ ls.map (mdS N F)).getD (i + 2) z40 = mdS N F ls[i] := by
        show (ls.map (mdS N F)).getD i z40 = _
        rw [List.getD_eq_getElem?_getD, List.getElem?_map, List.getElem?_eq_getElem hil]
        rfl
      rw [e]
      obtain ⟨k, a, b, e2, h1, h2, h3, h4⟩ := gate_nat hN (gatesOk_at (okC_gates hok).1 hil)
      rw [e2]
      unfold mdS
      dsimp only
      rw [Int.toNat_natCast, Int.toNat_natCast]
      by_cases h5 : k = 5
      · rw [if_pos (by omega)]
        exact gateOk_nat (b := 0) h1 (hmad a i h2) (by omega) (fun _ => rfl)
      · rw [if_neg (by omega)]
        exact gateOk_nat h1 (hmad a i h2) (hmad b i h3) (fun h => absurd h h5)
  · rw [Bool.not_eq_true', List.any_eq_false]
    intro o ho
    unfold mdO at ho
    obtain ⟨o', ho', rfl⟩ := List.mem_map.1 ho
    obtain ⟨h0, h1⟩ := out_nat hok ho'
    have := hmad o'.toNat ls.length (by omega)
    unfold badL
    simp
    omega
theorem made_f (N : Nat) (ls : List S40) (os : List Int) (L a : Int) (hst : stuckOk (N + ls.length) L a) (x : Nat) (hN : N ≤ 6) (hx : x ≤ 100) : neonwrightlaw07_made.f (N : Int) ls os L a (x : Int) = some ((GT.mad ⟨N, [], []⟩ (2 * L + a).toNat x : Nat) : Int) := by
  have hst' := hst
  unfold stuckOk at hst'
  obtain ⟨F, hF⟩ : ∃ F, (2 * L + a).toNat = F := ⟨_, rfl⟩
  rw [hF]
  unfold neonwrightlaw07_made.f
  by_cases h : (x : Int) = L
  · have e : GT.mad ⟨N, [], []⟩ F x = N + F % 2 := by unfold GT.mad; rw [if_pos (by omega)]
    rw [if_pos h, w64 (by omega) (by omega), e]
    congr 1
    omega
  · by_cases h2 : N ≤ x
    · have e : GT.mad ⟨N, [], []⟩ F x = x + 2 := by unfold GT.mad; rw [if_neg (by omega), if_pos h2]
      rw [if_neg h, if_pos (by omega), w64 (by omega) (by omega), e]
      congr 1
    · have e : GT.mad ⟨N, [], []⟩ F x = x := by unfold GT.mad; rw [if_neg (by omega), if_neg h2]
      rw [if_neg h, if_neg (by omega), e]
theorem md_l1 (N : Nat) (ls : List S40) (os : List Int) (hok : okC (N : Int) ls os = true) (L a : Int) (hst : stuckOk (N + ls.length) L a) (ls' : List S40) (R : Bool)
    (hend : ∀ k, neonwrightlaw07_GateMade.l1 (k + 1) (os.length : Int) (N : Int) ls os L a (N : Int) ls' (mdO N (2 * L + a).toNat os) = some R) : ∀ (d i k : Nat), os.length - i = d → i ≤ os.length → d < k →
    neonwrightlaw07_GateMade.l1 k (i : Int) (N : Int) ls os L a (N : Int) ls' (mdO N (2 * L + a).toNat (os.take i)) = some R := by
  have hs := okC_small hok
  intro d
  induction d with
  | zero =>
    intro i k hd hi hk
    obtain ⟨k, rfl⟩ : ∃ q, k = q + 1 := ⟨k - 1, by omega⟩
    rw [show i = os.length by omega, List.take_of_length_le (Nat.le_refl _)]
    exact hend k
  | succ d ih =>
    intro i k hd hi hk
    obtain ⟨k, rfl⟩ : ∃ q, k = q + 1 := ⟨k - 1, by omega⟩
    have hil : i < os.length := by omega
    have hw : ∀ _ : Unit, wrap64 ((i : Int) + 1) = ((i + 1 : Nat) : Int) := fun _ => by rw [w64 (by omega) (by omega)]; omega
    obtain ⟨h0, h1⟩ := out_nat hok (List.getElem_mem hil)
    obtain ⟨o, ho⟩ := Int.eq_ofNat_of_zero_le h0
    have h2 := ih (i + 1) k (by omega) (by omega) (by omega)
    have hlen : (mdO N (2 * L + a).toNat (os.take i)).length = i := by unfold mdO; rw [List.length_map, List.length_take]; omega
    rw [neonwrightlaw07_GateMade.l1, if_pos (by omega), if_pos (by omega), rd_get _ _ hil, ho, made_f N ls os L a hst o (by omega) (by omega), Option.bind_some, if_pos (by omega), hw ()]
    rw [List.take_succ_eq_append_getElem hil, ho] at h2
    unfold mdO at h2 ⊢
    rw [List.map_append, List.map_cons, List.map_nil, Int.toNat_natCast] at h2
    exact h2
theorem md_l0 (N : Nat) (ls : List S40) (os : List Int) (hok : okC (N : Int) ls os = true) (L a : Int) (hst : stuckOk (N + ls.length) L a) (R : Bool)
    (hend : ∀ k, neonwrightlaw07_GateMade.l1 (k + 1) (os.length : Int) (N : Int) ls os L a (N : Int) (mdL N (2 * L + a).toNat ls) (mdO N (2 * L + a).toNat os) = some R) : ∀ (d i k : Nat), ls.length - i = d → i ≤ ls.length → d + 10 < k →
    neonwrightlaw07_GateMade.l0 k (i : Int) (N : Int) ls os L a (N : Int) (mdL N (2 * L + a).toNat (ls.take i)) = some R := by
  have hs := okC_small hok
  intro d
  induction d with
  | zero =>
    intro i k hd hi hk
    obtain ⟨k, rfl⟩ : ∃ q, k = q + 1 := ⟨k - 1, by omega⟩
    rw [neonwrightlaw07_GateMade.l0, if_neg (by omega), List.take_of_length_le (by omega)]
    exact md_l1 N ls os hok L a hst _ R hend os.length 0 k (by omega) (by omega) (by omega)
  | succ d ih =>
    intro i k hd hi hk
    obtain ⟨k, rfl⟩ : ∃ q, k = q + 1 := ⟨k - 1, by omega⟩
    have hil : i < ls.length := by omega
    have hw : ∀ _ : Unit, wrap64 ((i : Int) + 1) = ((i + 1 : Nat) : Int) := fun _ => by rw [w64 (by omega) (by omega)]; omega
    obtain ⟨k', x, y, e, h1, h2, h3, h4⟩ := gate_nat (N := N) (by omega) (gatesOk_at (okC_gates hok).1 hil)
    have hrd : rd_T40 ls (i : Int) = ⟨(k' : Int), (x : Int), (y : Int)⟩ := by
      unfold rd_T40
      rw [Int.toNat_natCast, List.getD_eq_getElem?_getD, List.getElem?_eq_getElem hil]
      exact e
    have h5 := ih (i + 1) k (by omega) (by omega) (by omega)
    have hlen : (mdL N (2 * L + a).toNat (ls.take i)).length = i + 2 := by unfold mdL; rw [List.length_append, List.length_map, List.length_take]; simp; omega
    have hsn : mdL N (2 * L + a).toNat (ls.take (i + 1)) = mdL N (2 * L + a).toNat (ls.take i) ++ [mdS N (2 * L + a).toNat ⟨(k' : Int), (x : Int), (y : Int)⟩] := by
      unfold mdL
      rw [List.take_succ_eq_append_getElem hil, List.map_append, e, ← List.append_assoc]
      rfl
    rw [hsn] at h5
    unfold mdS at h5
    dsimp only at h5
    rw [Int.toNat_natCast, Int.toNat_natCast] at h5
    rw [neonwrightlaw07_GateMade.l0, if_pos (by omega), if_pos (by omega), hrd]
    dsimp only
    rw [made_f N ls os L a hst x (by omega) (by omega), Option.bind_some, hw ()]
    by_cases hk5 : k' = 5
    · rw [if_pos (by omega), if_pos (by omega)]
      rw [if_pos (by omega)] at h5
      exact h5
    · rw [if_neg (by omega), made_f N ls os L a hst y (by omega) (by omega), Option.bind_some, if_pos (by omega)]
      rw [if_neg (by omega)] at h5
      exact h5
end Go.Proofs.Ytelfalicickelaa.P
namespace Go.Proofs.Ytelfalicickelaa.Pure
open Go.RowKit Go.Proofs.Ytelfalicickelaa.P Go.Proofs.YtelfalicickelaaW.PrintWords Go.Proofs.YtelfalicickelaaW.PrintLast Go.Proofs.YtelfalicickelaaW.PrintMore Go.Proofs.Ytelfalicickelaa.Kit
theorem GateMade (n : Int) (ls : List S40) (os : List Int) (L a : Int) (w0 : (Lit.int .i64 n).wf = true) : ∃ k, neonwrightlaw07_GateMade.f k n ls os L a = some true := by
  refine ⟨300, ?_⟩
  have hj : ∀ k, neonwrightlaw07_GateMade.j0 (k + 1) true n ls os L a = some true := fun k => by
    rw [neonwrightlaw07_GateMade.j0, if_pos rfl, alive_f, Option.bind_some]
  unfold neonwrightlaw07_GateMade.f
  rw [few_f, Option.bind_some]
  by_cases h : isFew ls os = true
  · rw [if_pos h, rCircuit_f n ls os 300 (by omega), Option.bind_some]
    by_cases hok : okC n ls os = true
    · obtain ⟨N, rfl⟩ := okC_nat hok
      have hs := okC_small hok
      rw [if_pos hok, stuck_f N (by omega) ls (by omega), Option.bind_some]
      by_cases hst : stuckOk (N + ls.length) L a
      · rw [decide_eq_true hst, if_pos rfl]
        by_cases h14 : ls.length ≤ 14
        · rw [decide_eq_false (by omega), show (300 : Nat) = 299 + 1 from rfl, neonwrightlaw07_GateMade.j0, if_neg (by decide)]
          have hfl := (failN_ok hst).2
          have hok2 := okC_made N ls os hok (2 * L + a).toNat h14 hfl
          have hml : (mdO N (2 * L + a).toNat os).length = os.length := by simp [mdO]
          have hc := okC_ok hok
          have hSame : gate_Same.f (N : Int) ls os (N : Int) (mdL N (2 * L + a).toNat ls) (mdO N (2 * L + a).toNat os) = some (match GT.memb (GT.shows (toC N ls os) (2 * L + a).toNat) with | [] => (0, 10) | v :: _ => ((v : Int), 0)) := by
            unfold gate_Same.f
            rw [if_pos ⟨⟨hok, hok2⟩, rfl, hml.symm⟩, Int.toNat_natCast, toC_made N ls os hok]
            have hd : diffW (toC N ls os) (GT.madeC (toC N ls os) (2 * L + a).toNat) = GT.shows (toC N ls os) (2 * L + a).toNat := by
              refine Nat.eq_of_testBit_eq fun v => ?_
              rw [diffW_bit (toC N ls os) (GT.madeC (toC N ls os) (2 * L + a).toNat) rfl (by show ((toC N ls os).os.map _).length = _; rw [List.length_map]), shows_bit, GT.made_reply hc _ (by show (ls.map toG).length ≤ 14; rw [List.length_map]; exact h14)]
              congr 1
              rw [Bool.eq_iff_iff, decide_eq_true_iff, decide_eq_true_iff]
              exact ⟨fun h e => h e.symm, fun h e => h e.symm⟩
            rw [hd]
            cases GT.memb (GT.shows (toC N ls os) (2 * L + a).toNat) <;> rfl
          have hTest : gate_Test.f (N : Int) ls os L a = some (match GT.memb (GT.shows (toC N ls os) (2 * L + a).toNat) with | [] => (0, 10) | v :: _ => ((v : Int), 0)) := by
            unfold gate_Test.f
            rw [Int.toNat_natCast, if_pos ⟨hok, hst⟩]
            cases GT.memb (GT.shows (toC N ls os) (2 * L + a).toNat) <;> rfl
          have hend : ∀ k, neonwrightlaw07_GateMade.l1 (k + 1) (os.length : Int) (N : Int) ls os L a (N : Int) (mdL N (2 * L + a).toNat ls) (mdO N (2 * L + a).toNat os) = some true := fun k => by
            rw [neonwrightlaw07_GateMade.l1, if_neg (by omega), hSame, Option.bind_some, hTest, Option.bind_some, if_pos rfl, if_pos rfl]
            cases GT.memb (GT.shows (toC N ls os) (2 * L + a).toNat) with
            | nil => rw [if_neg (by decide), if_pos rfl, alive_f, Option.bind_some]
            | cons v t => rw [if_pos rfl, alive_f, Option.bind_some]
          exact md_l0 N ls os hok L a hst true hend ls.length 0 299 (by omega) (by omega) (by omega)
        · rw [decide_eq_true (by omega)]
          exact hj 299
      · rw [decide_eq_false hst, if_neg (by decide)]
        exact hj 299
    · rw [if_neg hok]
      exact hj 299
  · rw [if_neg h]
    exact hj 299
end Go.Proofs.Ytelfalicickelaa.Pure
