/- Texts of this claim, merged by a program (shake.py): what the last theorems reach of RCan, GateN5, RMost, RMostR, RApG. -/
import Derived.Test.YtelfalicickelaaKGateFewest8
import Derived.Test.YtelfalicickelaaKB4
import Derived.Test.YtelfalicickelaaKGateFewest4
import Derived.Test.YtelfalicickelaaKB5
import Derived.Test.YtelfalicickelaaKB3
import Derived.Test.YtelfalicickelaaKGateFewest6
import Derived.Test.YtelfalicickelaaKB6
set_option linter.unusedSimpArgs false
set_option linter.unusedVariables false
namespace Go.Proofs.Ytelfalicickelaa.P
open Go.Lib Go.RowKit Go.Proofs.YtelfalicickelaaW.PrintWords Go.Proofs.YtelfalicickelaaW.PrintLast Go.Proofs.YtelfalicickelaaW.PrintMore Go.Proofs.Ytelfalicickelaa.Kit
theorem andn64 (x y : Nat) (hx : x < 9223372036854775808) (hy : y < 9223372036854775808) : Go.bits .andNot .i64 (x : Int) (y : Int) = ((andn x y : Nat) : Int) := by
  have h := andnu x y (by omega) (by omega)
  have hlt : andn x y < 9223372036854775808 := by
    have h1 : x < 2 ^ 63 := by simpa using hx
    have h2 : x &&& y < 2 ^ 63 := Nat.lt_of_le_of_lt Nat.and_le_left h1
    have h3 := Nat.xor_lt_two_pow h1 h2
    unfold andn
    simpa using h3
  simp only [Go.bits, BitVec.ofInt_natCast] at h ⊢
  have hb : IntKind.i64.bits = IntKind.u64.bits := rfl
  rw [hb]
  rw [IntKind.wrap_u64] at h
  rw [IntKind.wrap_i64]
  have h4 : (BitVec.ofNat IntKind.u64.bits x &&& ~~~BitVec.ofNat IntKind.u64.bits y).toNat < 18446744073709551616 := BitVec.isLt _
  omega
theorem andn_le44 {x y : Nat} (h : x < 17592186044416) : andn x y < 17592186044416 := by
  have h1 : x < 2 ^ 44 := by simpa using h
  have h2 : x &&& y < 2 ^ 44 := Nat.lt_of_le_of_lt Nat.and_le_left h1
  have h3 := Nat.xor_lt_two_pow h1 h2
  unfold andn
  simpa using h3
def setW (c : GT.C) (s : Nat) : List Nat := (listN s).map (GT.shows c)
theorem mem_listN {s f : Nat} (hs : s < 17592186044416) : f ∈ listN s ↔ s.testBit f = true := by
  unfold listN
  rw [List.mem_filter, List.mem_range]
  constructor
  · exact fun h => h.2
  · intro h
    refine ⟨?_, h⟩
    refine Classical.byContradiction fun h2 => ?_
    have h3 : s < 2 ^ f := Nat.lt_of_lt_of_le (show s < 2 ^ 44 by simpa using hs) (Nat.pow_le_pow_right (by decide) (by omega))
    rw [Nat.testBit_lt_two_pow h3] at h
    cases h
theorem mem_setW {c : GT.C} {s w : Nat} (hs : s < 17592186044416) : w ∈ setW c s ↔ ∃ f, s.testBit f = true ∧ GT.shows c f = w := by
  unfold setW
  rw [List.mem_map]
  constructor
  · rintro ⟨f, h1, h2⟩; exact ⟨f, (mem_listN hs).1 h1, h2⟩
  · rintro ⟨f, h1, h2⟩; exact ⟨f, (mem_listN hs).2 h1, h2⟩
theorem same_of_mem {S T : List Nat} (h : ∀ w, w ∈ S ↔ w ∈ T) : GT.Same S T := fun vs => ⟨fun h1 s hs => h1 s ((h s).2 hs), fun h1 s hs => h1 s ((h s).1 hs)⟩
def InL (c : GT.C) (s : Nat) : Prop := s < 17592186044416 ∧ ∀ f, s.testBit f = true → f < 2 * GT.lines c
theorem InL.andn {c : GT.C} {s y : Nat} (h : InL c s) : InL c (andn s y) := ⟨andn_le44 h.1, fun f hf => h.2 f (by rw [testBit_andn, Bool.and_eq_true] at hf; exact hf.1)⟩
theorem shN_bit (c : GT.C) (v f : Nat) : (shN c v).testBit f = (decide (f < 2 * GT.lines c) && shP c v f) := num_range_bit _ _ _
theorem shP_bit {c : GT.C} {v f : Nat} (hv : v < 2 ^ c.n) : shP c v f = (GT.shows c f).testBit v := by
  rw [shows_bit, decide_eq_true hv, Bool.true_and]
  rfl
theorem setW_without {c : GT.C} {s v : Nat} (h : InL c s) (hv : v < 2 ^ c.n) : GT.Same (setW c (andn s (shN c v))) (GT.without (setW c s) v) := by
  refine same_of_mem fun w => ?_
  rw [GT.mem_without, mem_setW h.andn.1, mem_setW h.1]
  constructor
  · rintro ⟨f, h1, rfl⟩
    rw [testBit_andn, Bool.and_eq_true, shN_bit] at h1
    refine ⟨⟨f, h1.1, rfl⟩, ?_⟩
    have h2 := h1.2
    rw [decide_eq_true (h.2 f h1.1), Bool.true_and, shP_bit hv] at h2
    simpa using h2
  · rintro ⟨⟨f, h1, rfl⟩, h2⟩
    refine ⟨f, ?_, rfl⟩
    rw [testBit_andn, Bool.and_eq_true, shN_bit, decide_eq_true (h.2 f h1), Bool.true_and, shP_bit hv, h2]
    exact ⟨h1, rfl⟩
theorem shrt (x i : Nat) (hi : i ≤ 64) : Int.tmod (shr .i64 (x : Int) (i : Int)) 2 = (((x.testBit i).toNat : Nat) : Int) := by
  rw [shrn (by omega), show (2 : Int) = ((2 : Nat) : Int) from rfl, tmodn, bit_one]
theorem nI_rdr {l : List Nat} {j : Nat} (h : j < l.length) : rd (nI l) (j : Int) = ((l[j] : Nat) : Int) := by
  rw [rd_get _ _ (by simpa [nI] using h)]
  simp [nI]
theorem can_l1 (sh : List Nat) (hsh : sh.length ≤ 64) (from' left s : Nat) (x9 x10 : Int) (f : Nat) (hf : f ≤ 62) : ∀ (d j : Nat) (x12 : Int) (k : Nat), sh.length - j = d → j ≤ sh.length →
    ∃ x9' x10' : Int, (x9' = (f : Int) ∨ (0 ≤ x9 ∧ x9' = x9)) ∧
      neonwrightref07_can.l1 (k + d + 1) (nI sh) (from' : Int) (left : Int) (s : Int) x9 x10 (f : Int) x12 (j : Int) = neonwrightref07_can.l0 k (nI sh) (from' : Int) (left : Int) (s : Int) x9' x10' ((f + 1 : Nat) : Int) := by
  have hnl : (nI sh).length = sh.length := by simp [nI]
  have hw : ∀ _ : Unit, wrap64 ((f : Int) + 1) = ((f + 1 : Nat) : Int) := fun _ => by rw [w64 (by omega) (by omega)]; omega
  intro d
  induction d with
  | zero =>
    intro j x12 k hd hj
    rw [Nat.add_zero, neonwrightref07_can.l1, if_neg (by omega), hw ()]
    by_cases h9 : x9 < 0
    · rw [if_pos h9]; exact ⟨_, _, .inl rfl, rfl⟩
    · rw [if_neg h9]
      by_cases hc : x12 < x10
      · rw [if_pos hc]; exact ⟨_, _, .inl rfl, rfl⟩
      · rw [if_neg hc]; exact ⟨_, _, .inr ⟨by omega, rfl⟩, rfl⟩
  | succ d ih =>
    intro j x12 k hd hj
    have hw2 : ∀ _ : Unit, wrap64 ((j : Int) + 1) = ((j + 1 : Nat) : Int) := fun _ => by rw [w64 (by omega) (by omega)]; omega
    rw [show k + (d + 1) + 1 = (k + d + 1) + 1 from rfl, neonwrightref07_can.l1, if_pos (by omega), if_pos (by omega), if_pos (by omega), hw2 ()]
    exact ih (j + 1) _ k (by omega) (by omega)
theorem can_l0 (sh : List Nat) (hsh : sh.length ≤ 64) (from' left s : Nat) (hfr : from' ≤ sh.length) (hs : s < 17592186044416) (hs0 : s ≠ 0) : ∀ (d i : Nat) (x9 x10 : Int) (k K : Nat), 62 - i = d → i ≤ 62 →
    ((∃ b : Nat, x9 = (b : Int) ∧ s.testBit b = true) ∨ (x9 = -1 ∧ ∀ j, j < i → s.testBit j = false)) → K + 70 * d + 1 ≤ k →
    ∃ (b : Nat) (k' : Nat), K ≤ k' ∧ s.testBit b = true ∧ neonwrightref07_can.l0 k (nI sh) (from' : Int) (left : Int) (s : Int) x9 x10 (i : Int) = neonwrightref07_can.l2 k' (nI sh) (from' : Int) (left : Int) (s : Int) (b : Int) (from' : Int) := by
  have hend : ∀ i, 44 ≤ i → s / 2 ^ i = 0 := fun i hi => by
    have h1 : s < 2 ^ 44 := by simpa using hs
    exact Nat.div_eq_of_lt (Nat.lt_of_lt_of_le h1 (Nat.pow_le_pow_right (by decide) hi))
  have hfin : ∀ (i : Nat) (x9 x10 : Int) (k K : Nat), i ≤ 62 → s / 2 ^ i = 0 → ((∃ b : Nat, x9 = (b : Int) ∧ s.testBit b = true) ∨ (x9 = -1 ∧ ∀ j, j < i → s.testBit j = false)) → K + 1 ≤ k →
      ∃ (b : Nat) (k' : Nat), K ≤ k' ∧ s.testBit b = true ∧ neonwrightref07_can.l0 k (nI sh) (from' : Int) (left : Int) (s : Int) x9 x10 (i : Int) = neonwrightref07_can.l2 k' (nI sh) (from' : Int) (left : Int) (s : Int) (b : Int) (from' : Int) := by
    intro i x9 x10 k K hi h0 hx hk
    obtain ⟨k, rfl⟩ : ∃ q, k = q + 1 := ⟨k - 1, by omega⟩
    rcases hx with ⟨b, rfl, hb⟩ | ⟨_, hj⟩
    · refine ⟨b, k, by omega, hb, ?_⟩
      rw [neonwrightref07_can.l0, if_pos (by omega), shrn (by omega), h0, if_neg (by decide)]
    · exfalso
      apply hs0
      refine Nat.eq_of_testBit_eq fun j => ?_
      rw [Nat.zero_testBit]
      by_cases h : j < i
      · exact hj j h
      · exact div_zero_bits h0 (by omega)
  intro d
  induction d with
  | zero =>
    intro i x9 x10 k K hd hi hx hk
    exact hfin i x9 x10 k K hi (hend i (by omega)) hx (by omega)
  | succ d ih =>
    intro i x9 x10 k K hd hi hx hk
    by_cases h0 : s / 2 ^ i = 0
    · exact hfin i x9 x10 k K hi h0 hx (by omega)
    · obtain ⟨k, rfl⟩ : ∃ q, k = q + 1 := ⟨k - 1, by omega⟩
      have hw : ∀ _ : Unit, wrap64 ((i : Int) + 1) = ((i + 1 : Nat) : Int) := fun _ => by rw [w64 (by omega) (by omega)]; omega
      have hq : ((s / 2 ^ i : Nat) : Int) > 0 := by generalize s / 2 ^ i = q at *; omega
      rw [neonwrightref07_can.l0, if_pos (by omega), shrt s i (by omega), shrn (by omega), if_pos hq, hw ()]
      clear hq h0
      have a1 : 62 - (i + 1) = d := by clear hx ih hfin; omega
      have a2 : i + 1 ≤ 62 := by clear hx ih hfin; omega
      have a3 : K + 70 * d + 70 + 1 ≤ k + 1 := by clear hx ih hfin; omega
      have a4 : i ≤ 62 := hi
      clear hd hk
      cases hb : s.testBit i with
      | false =>
        rw [if_pos (show ((false.toNat : Nat) : Int) = 0 from rfl)]
        refine ih (i + 1) x9 x10 k K a1 a2 ?_ (by clear hx ih hfin; omega)
        rcases hx with h | ⟨h1, h2⟩
        · exact .inl h
        · refine .inr ⟨h1, fun j hj => ?_⟩
          by_cases e : j = i
          · rw [e]; exact hb
          · exact h2 j (by omega)
      | true =>
        rw [if_neg (show ¬ ((true.toNat : Nat) : Int) = 0 by decide)]
        obtain ⟨k2, rfl⟩ : ∃ q, k = q + (sh.length - from') + 1 := ⟨k - (sh.length - from') - 1, by clear hx ih hfin; omega⟩
        have a5 : K + 70 * d + 1 ≤ k2 := by clear hx ih hfin; omega
        obtain ⟨x9', x10', h9, e⟩ := can_l1 sh hsh from' left s x9 x10 i a4 (sh.length - from') from' 0 k2 rfl hfr
        rw [e]
        refine ih (i + 1) x9' x10' k2 K a1 a2 (.inl ?_) a5
        rcases h9 with rfl | ⟨h9, rfl⟩
        · exact ⟨i, rfl, hb⟩
        · rcases hx with h | ⟨h1, _⟩
          · exact h
          · omega
def l2P (c : GT.C) (from' v b s left : Nat) : Prop := ∃ u, v ≤ u ∧ u < 2 ^ c.n ∧ (GT.shows c b).testBit u = true ∧ GT.Cov (fun x => from' ≤ x ∧ x < 2 ^ c.n) (GT.without (setW c s) u) left
theorem can_l2 (c : GT.C) (V : Nat) (hV : V = 2 ^ c.n) (hV64 : V ≤ 64) (hsh : ∀ v, shN c v < 17592186044416) (from' left s b K : Nat) (hs : InL c s) (hb : s.testBit b = true) (hl : left ≤ 100)
    (hcan : ∀ s' k, InL c s' → K ≤ k → ∃ r, neonwrightref07_can.f k (nI ((List.range V).map (shN c))) (from' : Int) (left : Int) (s' : Int) = some r ∧ (r = true ↔ GT.Cov (fun u => from' ≤ u ∧ u < 2 ^ c.n) (setW c s') left)) :
    ∀ (d v k : Nat), V - v = d → v ≤ V → K + d + 1 ≤ k →
    ∃ r, neonwrightref07_can.l2 k (nI ((List.range V).map (shN c))) (from' : Int) ((left + 1 : Nat) : Int) (s : Int) (b : Int) (v : Int) = some r ∧ (r = true ↔ l2P c from' v b s left) := by
  have hnl : (nI ((List.range V).map (shN c))).length = V := by simp [nI]
  have hb62 : b < 44 := Classical.byContradiction fun h => by
    have h1 : s < 2 ^ b := Nat.lt_of_lt_of_le (show s < 2 ^ 44 by simpa using hs.1) (Nat.pow_le_pow_right (by decide) (by omega))
    rw [Nat.testBit_lt_two_pow h1] at hb
    cases hb
  have hs1 := hs.1
  have hwl : ∀ _ : Unit, wrap64 (((left + 1 : Nat) : Int) - 1) = (left : Int) := fun _ => by rw [w64 (by omega) (by omega)]; omega
  intro d
  induction d with
  | zero =>
    intro v k hd hv hk
    obtain ⟨k, rfl⟩ : ∃ q, k = q + 1 := ⟨k - 1, by omega⟩
    rw [neonwrightref07_can.l2, if_neg (by omega)]
    refine ⟨false, rfl, fun h => (by cases h), ?_⟩
    rintro ⟨u, h1, h2, _⟩
    exfalso
    rw [← hV] at h2
    omega
  | succ d ih =>
    intro v k hd hv hk
    obtain ⟨k, rfl⟩ : ∃ q, k = q + 1 := ⟨k - 1, by omega⟩
    have hvV : v < V := by omega
    have hw : ∀ _ : Unit, wrap64 ((v : Int) + 1) = ((v + 1 : Nat) : Int) := fun _ => by rw [w64 (by omega) (by omega)]; omega
    obtain ⟨r1, e1, i1⟩ := ih (v + 1) k (by omega) (by omega) (by omega)
    have hrd : rd (nI ((List.range V).map (shN c))) (v : Int) = ((shN c v : Nat) : Int) := by
      rw [nI_rdr (by simpa using hvV)]; simp
    have hsv := hsh v
    have hv2 : v < 2 ^ c.n := by rw [← hV]; exact hvV
    have hbit : (shN c v).testBit b = (GT.shows c b).testBit v := by
      rw [shN_bit, decide_eq_true (hs.2 b hb), Bool.true_and, shP_bit hv2]
    have hnext : (GT.shows c b).testBit v = false ∨ ¬ GT.Cov (fun x => from' ≤ x ∧ x < 2 ^ c.n) (GT.without (setW c s) v) left → (l2P c from' (v + 1) b s left ↔ l2P c from' v b s left) := fun hno => by
      constructor
      · rintro ⟨u, h1, h2⟩; exact ⟨u, by omega, h2⟩
      · rintro ⟨u, h1, h2, h3, h4⟩
        refine ⟨u, ?_, h2, h3, h4⟩
        by_cases e : u = v
        · subst e
          rcases hno with h | h
          · rw [h] at h3; cases h3
          · exact absurd h4 h
        · omega
    rw [neonwrightref07_can.l2, if_pos (by omega), if_pos (by omega), if_pos (by omega), hrd, shrt _ b (by omega), hbit, hw (), hwl (), andn64 s (shN c v) (by omega) (by omega)]
    cases hbv : (GT.shows c b).testBit v with
    | false =>
      rw [if_neg (show ¬ ((false.toNat : Nat) : Int) = 1 by decide)]
      exact ⟨r1, e1, i1.trans (hnext (.inl hbv))⟩
    | true =>
      obtain ⟨r2, e2, i2⟩ := hcan (andn s (shN c v)) k hs.andn (by omega)
      rw [(setW_without hs hv2).cov] at i2
      rw [if_pos (show ((true.toNat : Nat) : Int) = 1 from rfl), e2, Option.bind_some]
      cases r2 with
      | true =>
        rw [if_pos rfl]
        exact ⟨true, rfl, fun _ => ⟨v, Nat.le_refl _, hv2, hbv, i2.1 rfl⟩, fun _ => rfl⟩
      | false =>
        rw [if_neg (by decide)]
        exact ⟨r1, e1, i1.trans (hnext (.inr (fun h => by have := i2.2 h; cases this)))⟩
theorem rcan_f (c : GT.C) (V : Nat) (hV : V = 2 ^ c.n) (hV64 : V ≤ 64) (hsh : ∀ v, shN c v < 17592186044416) (from' : Nat) (hfr : from' ≤ V) : ∀ (left s k : Nat), InL c s → left ≤ 100 → 5000 * left + 10 ≤ k →
    ∃ r, neonwrightref07_can.f k (nI ((List.range V).map (shN c))) (from' : Int) (left : Int) (s : Int) = some r ∧ (r = true ↔ GT.Cov (fun u => from' ≤ u ∧ u < 2 ^ c.n) (setW c s) left) := by
  intro left
  induction left with
  | zero =>
    intro s k hs hl hk
    obtain ⟨k, rfl⟩ : ∃ q, k = q + 1 := ⟨k - 1, by omega⟩
    rw [neonwrightref07_can.f]
    by_cases h0 : s = 0
    · rw [if_pos (by omega)]
      refine ⟨true, rfl, fun _ => ?_, fun _ => rfl⟩
      rw [h0]
      have : setW c 0 = [] := by
        unfold setW listN
        rw [List.filter_eq_nil_iff.2 (fun u _ => by rw [Nat.zero_testBit]; decide)]
        rfl
      rw [this]
      exact GT.cov_nil _ _
    · rw [if_neg (by omega), if_pos (show ((0 : Nat) : Int) = 0 from rfl)]
      refine ⟨false, rfl, fun h => (by cases h), fun h => ?_⟩
      exfalso
      have h1 := GT.cov_zero h
      apply h0
      refine Nat.eq_of_testBit_eq fun j => ?_
      rw [Nat.zero_testBit]
      cases hj : s.testBit j with
      | false => rfl
      | true =>
        have := (mem_setW (c := c) hs.1).2 ⟨j, hj, rfl⟩
        rw [h1] at this
        simp at this
  | succ left ih =>
    intro s k hs hl hk
    obtain ⟨k, rfl⟩ : ∃ q, k = q + 1 := ⟨k - 1, by omega⟩
    rw [neonwrightref07_can.f]
    by_cases h0 : s = 0
    · rw [if_pos (by omega)]
      refine ⟨true, rfl, fun _ => ?_, fun _ => rfl⟩
      rw [h0]
      have : setW c 0 = [] := by
        unfold setW listN
        rw [List.filter_eq_nil_iff.2 (fun u _ => by rw [Nat.zero_testBit]; decide)]
        rfl
      rw [this]
      exact GT.cov_nil _ _
    · rw [if_neg (by omega), if_neg (by omega)]
      have hlen : ((List.range V).map (shN c)).length = V := by simp
      obtain ⟨b, k', hk', hb, e⟩ := can_l0 ((List.range V).map (shN c)) (by rw [hlen]; exact hV64) from' (left + 1) s (by rw [hlen]; exact hfr) hs.1 h0 62 0 (-1) 0 k (5000 * left + 10 + 70) rfl (by omega) (.inr ⟨rfl, fun j hj => by omega⟩) (by omega)
      rw [show ((0 : Nat) : Int) = 0 from rfl] at e
      rw [e]
      obtain ⟨r, e2, i2⟩ := can_l2 c V hV hV64 hsh from' left s b (5000 * left + 10) hs hb (by omega) (fun s' k2 h1 h2 => ih s' k2 h1 (by omega) h2) (V - from') from' k' rfl hfr (by omega)
      refine ⟨r, e2, i2.trans ?_⟩
      constructor
      · rintro ⟨u, h1, h2, h3, h4⟩
        exact GT.Cov.step (v := u) ⟨h1, h2⟩ h4
      · intro h
        obtain ⟨j, u, h1, h2, h3, h4⟩ := h.unstep ((mem_setW hs.1).2 ⟨b, hb, rfl⟩)
        have : j = left := by omega
        subst this
        exact ⟨u, h3.1, h3.2, h2, h4⟩
end Go.Proofs.Ytelfalicickelaa.P
namespace Go.Proofs.Ytelfalicickelaa.GT
def Ind (adj : Nat → Nat → Bool) (T : List Nat) : Prop := T.Nodup ∧ ∀ x, x ∈ T → ∀ y, y ∈ T → x ≠ y → adj x y = false
def Al (adj : Nat → Nat → Bool) (S : Nat → Prop) (m : Nat) : Prop :=
  (∃ T, Ind adj T ∧ (∀ x, x ∈ T → S x) ∧ T.length = m) ∧ ∀ T, Ind adj T → (∀ x, x ∈ T → S x) → T.length ≤ m
theorem Al.unique {adj : Nat → Nat → Bool} {S : Nat → Prop} {m m' : Nat} (h : Al adj S m) (h' : Al adj S m') : m = m' := by
  obtain ⟨⟨T, h1, h2, h3⟩, h4⟩ := h
  obtain ⟨⟨T', h1', h2', h3'⟩, h4'⟩ := h'
  have := h4 T' h1' h2'
  have := h4' T h1 h2
  omega
theorem Al.congr {adj : Nat → Nat → Bool} {S S' : Nat → Prop} {m : Nat} (hS : ∀ x, S x ↔ S' x) (h : Al adj S m) : Al adj S' m := by
  have : S = S' := funext fun x => propext (hS x)
  rwa [this] at h
theorem Al.empty {adj : Nat → Nat → Bool} {S : Nat → Prop} (hS : ∀ x, ¬ S x) : Al adj S 0 :=
  ⟨⟨[], ⟨List.nodup_nil, fun x h => by simp at h⟩, fun x h => by simp at h, rfl⟩, fun T _ h => by
    cases T with
    | nil => exact Nat.le_refl _
    | cons a t => exact absurd (h a List.mem_cons_self) (hS a)⟩
theorem Ind.cons {adj : Nat → Nat → Bool} (hsym : ∀ x y, adj x y = adj y x) {T : List Nat} {c : Nat} (h : Ind adj T) (hc : c ∉ T) (ha : ∀ x, x ∈ T → adj c x = false) : Ind adj (c :: T) := by
  refine ⟨List.nodup_cons.2 ⟨hc, h.1⟩, fun x hx y hy hn => ?_⟩
  rcases List.mem_cons.1 hx with hxe | hx
  · rcases List.mem_cons.1 hy with hye | hy
    · exact absurd (hxe.trans hye.symm) hn
    · rw [hxe]; exact ha y hy
  · rcases List.mem_cons.1 hy with hye | hy
    · rw [hye, hsym]; exact ha x hx
    · exact h.2 x hx y hy hn
theorem Ind.erase {adj : Nat → Nat → Bool} {T : List Nat} (h : Ind adj T) (c : Nat) : Ind adj (T.erase c) :=
  ⟨h.1.erase c, fun x hx y hy hn => h.2 x (List.mem_of_mem_erase hx) y (List.mem_of_mem_erase hy) hn⟩
theorem Ind.erase_mem {adj : Nat → Nat → Bool} {T : List Nat} (h : Ind adj T) {c x : Nat} (hc : c ∈ T) (hx : x ∈ T.erase c) : x ∈ T ∧ x ≠ c ∧ adj c x = false := by
  have h1 := (h.1.mem_erase_iff).1 hx
  exact ⟨h1.2, h1.1, h.2 c hc x h1.2 (fun e => h1.1 e.symm)⟩
theorem erase_len {T : List Nat} {c : Nat} (h : c ∈ T) : (T.erase c).length + 1 = T.length := by
  rw [List.length_erase_of_mem h]
  have := List.length_pos_of_mem h
  omega
def off (adj : Nat → Nat → Bool) (S : Nat → Prop) (c : Nat) : Nat → Prop := fun x => S x ∧ x ≠ c ∧ adj c x = false
theorem Al.branch {adj : Nat → Nat → Bool} (hsym : ∀ x y, adj x y = adj y x) {S : Nat → Prop} {c m1 m2 : Nat} (hc : S c) (h1 : Al adj (fun x => S x ∧ x ≠ c) m1) (h2 : Al adj (off adj S c) m2) : Al adj S (max (1 + m2) m1) := by
  obtain ⟨⟨T1, a1, a2, a3⟩, a4⟩ := h1
  obtain ⟨⟨T2, b1, b2, b3⟩, b4⟩ := h2
  constructor
  · by_cases hm : 1 + m2 ≤ m1
    · exact ⟨T1, a1, fun x hx => (a2 x hx).1, by omega⟩
    · refine ⟨c :: T2, b1.cons hsym (fun h => (b2 c h).2.1 rfl) (fun x hx => (b2 x hx).2.2), fun x hx => ?_, by rw [List.length_cons]; omega⟩
      rcases List.mem_cons.1 hx with rfl | hx
      · exact hc
      · exact (b2 x hx).1
  · intro T ht hs
    by_cases h : c ∈ T
    · have e := b4 (T.erase c) (ht.erase c) (fun x hx => by
        obtain ⟨e1, e2, e3⟩ := ht.erase_mem h hx
        exact ⟨hs x e1, e2, e3⟩)
      have := erase_len h
      omega
    · have e := a4 T ht (fun x hx => ⟨hs x hx, fun e => h (e ▸ hx)⟩)
      omega
theorem Al.leaf {adj : Nat → Nat → Bool} (hsym : ∀ x y, adj x y = adj y x) {S : Nat → Prop} {c m : Nat} (hc : S c) (hd : ∀ x y, S x → S y → x ≠ c → y ≠ c → adj c x = true → adj c y = true → x = y) (h : Al adj (off adj S c) m) : Al adj S (1 + m) := by
  obtain ⟨⟨T2, b1, b2, b3⟩, b4⟩ := h
  constructor
  · refine ⟨c :: T2, b1.cons hsym (fun h => (b2 c h).2.1 rfl) (fun x hx => (b2 x hx).2.2), fun x hx => ?_, by rw [List.length_cons]; omega⟩
    rcases List.mem_cons.1 hx with rfl | hx
    · exact hc
    · exact (b2 x hx).1
  · intro T ht hs
    by_cases h : c ∈ T
    · have e := b4 (T.erase c) (ht.erase c) (fun x hx => by
        obtain ⟨e1, e2, e3⟩ := ht.erase_mem h hx
        exact ⟨hs x e1, e2, e3⟩)
      have := erase_len h
      omega
    · by_cases hn : ∃ d, d ∈ T ∧ adj c d = true
      · obtain ⟨d, hdT, hda⟩ := hn
        have e := b4 (T.erase d) (ht.erase d) (fun x hx => by
          obtain ⟨e1, e2, e3⟩ := ht.erase_mem hdT hx
          refine ⟨hs x e1, fun e => h (e ▸ e1), ?_⟩
          cases hx2 : adj c x with
          | false => rfl
          | true => exact absurd (hd x d (hs x e1) (hs d hdT) (fun e => h (e ▸ e1)) (fun e => h (e ▸ hdT)) hx2 hda) e2)
        have := erase_len hdT
        omega
      · have e := b4 T ht (fun x hx => ⟨hs x hx, fun e => h (e ▸ hx), by
          cases hx2 : adj c x with
          | false => rfl
          | true => exact absurd ⟨x, hx, hx2⟩ hn⟩)
        omega
theorem Al.near {adj : Nat → Nat → Bool} (hsym : ∀ x y, adj x y = adj y x) {S : Nat → Prop} {c n : Nat} (hc : S c)
    (hup : ∀ l m, S l → (l = c ∨ adj c l = true) → Al adj (off adj S l) m → 1 + m ≤ n)
    (hal : ∀ l, S l → (l = c ∨ adj c l = true) → ∃ m, Al adj (off adj S l) m)
    (hat : ∃ l m, S l ∧ Al adj (off adj S l) m ∧ n = 1 + m) : Al adj S n := by
  constructor
  · obtain ⟨l, m, h1, ⟨⟨T2, b1, b2, b3⟩, b4⟩, h3⟩ := hat
    refine ⟨l :: T2, b1.cons hsym (fun h => (b2 l h).2.1 rfl) (fun x hx => (b2 x hx).2.2), fun x hx => ?_, by rw [List.length_cons]; omega⟩
    rcases List.mem_cons.1 hx with rfl | hx
    · exact h1
    · exact (b2 x hx).1
  · have key : ∀ T, Ind adj T → (∀ x, x ∈ T → S x) → ∀ l, l ∈ T → (l = c ∨ adj c l = true) → T.length ≤ n := by
      intro T ht hs l hl hlc
      obtain ⟨m, hm⟩ := hal l (hs l hl) hlc
      have h1 := hup l m (hs l hl) hlc hm
      have h2 := hm.2 (T.erase l) (ht.erase l) (fun x hx => by
        obtain ⟨e1, e2, e3⟩ := ht.erase_mem hl hx
        exact ⟨hs x e1, e2, e3⟩)
      have := erase_len hl
      omega
    intro T ht hs
    by_cases hn : ∃ l, l ∈ T ∧ (l = c ∨ adj c l = true)
    · obtain ⟨l, hl, hlc⟩ := hn
      exact key T ht hs l hl hlc
    · have h1 := key (c :: T) (ht.cons hsym (fun h => hn ⟨c, h, .inl rfl⟩) (fun x hx => by
          cases hx2 : adj c x with
          | false => rfl
          | true => exact absurd ⟨x, hx, .inr hx2⟩ hn)) (fun x hx => by
          rcases List.mem_cons.1 hx with rfl | hx
          · exact hc
          · exact hs x hx) c List.mem_cons_self (.inl rfl)
      rw [List.length_cons] at h1
      omega
def past (adj : Nat → Nat → Bool) (S : Nat → Prop) (c : Nat) : Nat → Prop := fun x => S x ∧ c < x ∧ adj c x = false
def First (adj : Nat → Nat → Bool) : Nat → (Nat → Prop) → List Nat → Prop
  | 0, _, L => L = []
  | m + 1, S, L => ∃ c L', L = c :: L' ∧ S c ∧ Al adj (past adj S c) m ∧ (∀ b, b < c → S b → ¬ Al adj (past adj S b) m) ∧ First adj m (past adj S c) L'
theorem First.unique {adj : Nat → Nat → Bool} : ∀ {m : Nat} {S : Nat → Prop} {L L' : List Nat}, First adj m S L → First adj m S L' → L = L'
  | 0, _, _, _, h, h' => h.trans h'.symm
  | m + 1, S, L, L', ⟨c, T, e, h1, h2, h3, h4⟩, ⟨c', T', e', h1', h2', h3', h4'⟩ => by
    have : c = c' := by
      rcases Nat.lt_trichotomy c c' with h | h | h
      · exact absurd h2 (h3' c h h1)
      · exact h
      · exact absurd h2' (h3 c' h h1')
    subst this
    rw [e, e', First.unique h4 h4']
theorem First.congr {adj : Nat → Nat → Bool} {m : Nat} {S S' : Nat → Prop} {L : List Nat} (hS : ∀ x, S x ↔ S' x) (h : First adj m S L) : First adj m S' L := by
  have : S = S' := funext fun x => propext (hS x)
  rwa [this] at h
theorem First.mem {adj : Nat → Nat → Bool} : ∀ {m : Nat} {S : Nat → Prop} {L : List Nat}, First adj m S L → ∀ x, x ∈ L → S x
  | 0, _, _, h, x, hx => by rw [h] at hx; simp at hx
  | m + 1, S, L, ⟨c, T, e, h1, h2, h3, h4⟩, x, hx => by
    rw [e] at hx
    rcases List.mem_cons.1 hx with rfl | hx
    · exact h1
    · exact (First.mem h4 x hx).1
theorem First.ind {adj : Nat → Nat → Bool} (hsym : ∀ x y, adj x y = adj y x) : ∀ {m : Nat} {S : Nat → Prop} {L : List Nat}, First adj m S L → Ind adj L ∧ L.length = m
  | 0, _, _, h => by rw [h]; exact ⟨⟨List.nodup_nil, fun x h => by simp at h⟩, rfl⟩
  | m + 1, S, L, ⟨c, T, e, h1, h2, h3, h4⟩ => by
    obtain ⟨i1, i2⟩ := First.ind hsym h4
    have hm := First.mem h4
    rw [e]
    exact ⟨i1.cons hsym (fun h => Nat.lt_irrefl _ (hm c h).2.1) (fun x hx => (hm x hx).2.2), by rw [List.length_cons, i2]⟩
theorem exists_min : ∀ (T : List Nat), T ≠ [] → ∃ c, c ∈ T ∧ ∀ x, x ∈ T → c ≤ x
  | [], h => absurd rfl h
  | [a], _ => ⟨a, by simp, fun x hx => by simp at hx; omega⟩
  | a :: b :: t, _ => by
    obtain ⟨c, h1, h2⟩ := exists_min (b :: t) (by simp)
    by_cases h : a ≤ c
    · refine ⟨a, by simp, fun x hx => ?_⟩
      rcases List.mem_cons.1 hx with rfl | hx
      · exact Nat.le_refl _
      · exact Nat.le_trans h (h2 x hx)
    · refine ⟨c, List.mem_cons_of_mem _ h1, fun x hx => ?_⟩
      rcases List.mem_cons.1 hx with rfl | hx
      · omega
      · exact h2 x hx
theorem Al.first {adj : Nat → Nat → Bool} (hsym : ∀ x y, adj x y = adj y x) {S : Nat → Prop} {m : Nat} (h : Al adj S (m + 1)) : ∃ c, S c ∧ Al adj (past adj S c) m := by
  obtain ⟨⟨T, h1, h2, h3⟩, h4⟩ := h
  obtain ⟨c, hc, hmin⟩ := exists_min T (by intro e; rw [e] at h3; simp at h3)
  refine ⟨c, h2 c hc, ⟨T.erase c, h1.erase c, fun x hx => ?_, by have := erase_len hc; omega⟩, fun U hU hs => ?_⟩
  · obtain ⟨e1, e2, e3⟩ := h1.erase_mem hc hx
    have := hmin x e1
    exact ⟨h2 x e1, by omega, e3⟩
  · have := h4 (c :: U) (hU.cons hsym (fun h => Nat.lt_irrefl _ (hs c h).2.1) (fun x hx => (hs x hx).2.2)) (fun x hx => by
      rcases List.mem_cons.1 hx with rfl | hx
      · exact h2 _ hc
      · exact (hs x hx).1)
    rw [List.length_cons] at this
    omega
theorem Al.map {adj adj' : Nat → Nat → Bool} {φ : Nat → Nat} {S : Nat → Prop} (hinj : ∀ x y, S x → S y → φ x = φ y → x = y) (hadj : ∀ x y, S x → S y → adj' (φ x) (φ y) = adj x y) {m : Nat} (h : Al adj S m) : Al adj' (fun y => ∃ x, S x ∧ φ x = y) m := by
  obtain ⟨⟨T, h1, h2, h3⟩, h4⟩ := h
  constructor
  · refine ⟨T.map φ, ⟨?_, ?_⟩, fun y hy => ?_, by rw [List.length_map, h3]⟩
    · rw [List.nodup_iff_pairwise_ne, List.pairwise_map]
      exact (List.nodup_iff_pairwise_ne.1 h1.1).imp_of_mem fun {a b} ha hb hn e => hn (hinj a b (h2 a ha) (h2 b hb) e)
    · intro x hx y hy hn
      obtain ⟨x', hx', e1⟩ := List.mem_map.1 hx
      obtain ⟨y', hy', e2⟩ := List.mem_map.1 hy
      rw [← e1, ← e2, hadj x' y' (h2 x' hx') (h2 y' hy')]
      exact h1.2 x' hx' y' hy' (fun e => hn (by rw [← e1, ← e2, e]))
    · obtain ⟨x, hx, rfl⟩ := List.mem_map.1 hy
      exact ⟨x, h2 x hx, rfl⟩
  · have key : ∀ U : List Nat, (∀ y, y ∈ U → ∃ x, S x ∧ φ x = y) → ∃ T : List Nat, (∀ x, x ∈ T → S x) ∧ T.map φ = U := by
      intro U
      induction U with
      | nil => exact fun _ => ⟨[], fun x h => by simp at h, rfl⟩
      | cons a t ih =>
        intro h
        obtain ⟨T, t1, t2⟩ := ih (fun y hy => h y (List.mem_cons_of_mem _ hy))
        obtain ⟨x, x1, x2⟩ := h a List.mem_cons_self
        exact ⟨x :: T, fun y hy => by
          rcases List.mem_cons.1 hy with e | hy
          · rw [e]; exact x1
          · exact t1 y hy, by rw [List.map_cons, x2, t2]⟩
    intro U hU hs
    obtain ⟨T', t1, rfl⟩ := key U hs
    rw [List.length_map]
    refine h4 T' ⟨?_, fun x hx y hy hn => ?_⟩ t1
    · have := List.nodup_iff_pairwise_ne.1 hU.1
      rw [List.pairwise_map] at this
      exact List.nodup_iff_pairwise_ne.2 (this.imp fun {a b} hn e => hn (congrArg φ e))
    · rw [← hadj x y (t1 x hx) (t1 y hy)]
      exact hU.2 _ (List.mem_map_of_mem hx) _ (List.mem_map_of_mem hy) (fun e => hn (hinj x y (t1 x hx) (t1 y hy) e))
theorem nodup_len : ∀ (N : Nat) (T : List Nat), T.Nodup → (∀ x, x ∈ T → x < N) → T.length ≤ N
  | 0, [], _, _ => Nat.le_refl _
  | 0, a :: t, _, h => absurd (h a List.mem_cons_self) (by omega)
  | N + 1, T, hT, h => by
    by_cases hN : N ∈ T
    · have e := nodup_len N (T.erase N) (hT.erase N) (fun x hx => by
        have h1 := hT.mem_erase_iff.1 hx
        have := h x h1.2
        omega)
      have := erase_len hN
      omega
    · have e := nodup_len N T hT (fun x hx => by
        have := h x hx
        have : x ≠ N := fun e => hN (e ▸ hx)
        omega)
      omega
theorem Al.exists (adj : Nat → Nat → Bool) {S : Nat → Prop} (N : Nat) (hS : ∀ x, S x → x < N) : ∃ m, Al adj S m := by
  have hb : ∀ T, Ind adj T → (∀ x, x ∈ T → S x) → T.length ≤ N := fun T hT hs => by
    exact nodup_len N T hT.1 (fun x hx => hS x (hs x hx))
  have : ∀ d m, N - m = d → (∃ T, Ind adj T ∧ (∀ x, x ∈ T → S x) ∧ T.length = m) → ∃ m, Al adj S m := by
    intro d
    induction d with
    | zero =>
      intro m hm ⟨T, h1, h2, h3⟩
      exact ⟨m, ⟨T, h1, h2, h3⟩, fun U hU hs => by have := hb U hU hs; have := hb T h1 h2; omega⟩
    | succ d ih =>
      intro m hm hT
      by_cases hx : ∃ T, Ind adj T ∧ (∀ x, x ∈ T → S x) ∧ m < T.length
      · obtain ⟨T, h1, h2, h3⟩ := hx
        refine ih (m + 1) (by omega) ⟨T.take (m + 1), ⟨h1.1.sublist (List.take_sublist ..), fun x hx y hy hn => h1.2 x (List.mem_of_mem_take hx) y (List.mem_of_mem_take hy) hn⟩, fun x hx => h2 x (List.mem_of_mem_take hx), by rw [List.length_take]; omega⟩
      · exact ⟨m, hT, fun U hU hs => by
          rcases Nat.lt_or_ge m U.length with h | h
          · exact absurd ⟨U, hU, hs, h⟩ hx
          · exact h⟩
  exact this N 0 (by omega) ⟨[], ⟨List.nodup_nil, fun x h => by simp at h⟩, fun x h => by simp at h, rfl⟩
theorem First.map {adj adj' : Nat → Nat → Bool} {φ : Nat → Nat} : ∀ {m : Nat} {S : Nat → Prop} {L : List Nat}, (∀ x y, S x → S y → x < y → φ x < φ y) → (∀ x y, S x → S y → adj' (φ x) (φ y) = adj x y) → (∃ N, ∀ x, S x → x < N) → First adj m S L → First adj' m (fun y => ∃ x, S x ∧ φ x = y) (L.map φ)
  | 0, _, _, _, _, _, h => by rw [h]; rfl
  | m + 1, S, L, hmono, hadj, ⟨N, hN⟩, ⟨c, T, e, h1, h2, h3, h4⟩ => by
    have hinj : ∀ x y, S x → S y → φ x = φ y → x = y := fun x y hx hy he => by
      rcases Nat.lt_trichotomy x y with h | h | h
      · have := hmono x y hx hy h; omega
      · exact h
      · have := hmono y x hy hx h; omega
    have hp : ∀ b, S b → ∀ y, (∃ x, past adj S b x ∧ φ x = y) ↔ past adj' (fun y => ∃ x, S x ∧ φ x = y) (φ b) y := fun b hb y => by
      constructor
      · rintro ⟨x, ⟨hx1, hx2, hx3⟩, rfl⟩
        exact ⟨⟨x, hx1, rfl⟩, hmono b x hb hx1 hx2, by rw [hadj b x hb hx1]; exact hx3⟩
      · rintro ⟨⟨x, hx, rfl⟩, h5, h6⟩
        refine ⟨x, ⟨hx, ?_, by rw [← hadj b x hb hx]; exact h6⟩, rfl⟩
        rcases Nat.lt_trichotomy x b with h | h | h
        · have := hmono x b hx hb h; omega
        · subst h; omega
        · exact h
    refine ⟨φ c, T.map φ, by rw [e, List.map_cons], ⟨c, h1, rfl⟩, ?_, ?_, ?_⟩
    · exact (h2.map (fun x y hx hy => hinj x y hx.1 hy.1) (fun x y hx hy => hadj x y hx.1 hy.1)).congr (hp c h1)
    · rintro _ hbc ⟨b, hb, rfl⟩ hA
      have hbc' : b < c := by
        rcases Nat.lt_trichotomy b c with h | h | h
        · exact h
        · subst h; omega
        · have := hmono c b h1 hb h; omega
      obtain ⟨m', hm'⟩ := Al.exists adj (S := past adj S b) N (fun x hx => hN x hx.1)
      have h7 := (hm'.map (adj' := adj') (φ := φ) (fun x y hx hy => hinj x y hx.1 hy.1) (fun x y hx hy => hadj x y hx.1 hy.1)).congr (hp b hb)
      have := h7.unique hA
      subst this
      exact h3 b hbc' hb hm'
    · exact (First.map (fun x y hx hy => hmono x y hx.1 hy.1) (fun x y hx hy => hadj x y hx.1 hy.1) ⟨N, fun x hx => hN x hx.1⟩ h4).congr (hp c h1)
end Go.Proofs.Ytelfalicickelaa.GT
set_option linter.unusedSimpArgs false
set_option linter.unusedVariables false
namespace Go.Proofs.Ytelfalicickelaa.P
open Go.Lib Go.RowKit Go.Proofs.YtelfalicickelaaW.PrintWords Go.Proofs.YtelfalicickelaaW.PrintLast Go.Proofs.YtelfalicickelaaW.PrintMore Go.Proofs.Ytelfalicickelaa.Kit
theorem pop_ge1 : ∀ (k x i : Nat), i < k → x.testBit i = true → 1 ≤ popAux k x
  | 0, _, _, h, _ => absurd h (Nat.not_lt_zero _)
  | k + 1, x, 0, _, hb => by
    rw [popAux]
    rw [Nat.testBit_zero, decide_eq_true_iff] at hb
    omega
  | k + 1, x, i + 1, h, hb => by
    rw [Nat.testBit_succ] at hb
    have := pop_ge1 k (x / 2) i (by omega) hb
    rw [popAux]
    omega
theorem pop_ge2 : ∀ (k x i j : Nat), i < j → j < k → x.testBit i = true → x.testBit j = true → 2 ≤ popAux k x
  | 0, _, _, _, _, h, _, _ => absurd h (Nat.not_lt_zero _)
  | k + 1, x, 0, j + 1, _, h, hb, hc => by
    rw [Nat.testBit_succ] at hc
    rw [Nat.testBit_zero, decide_eq_true_iff] at hb
    have := pop_ge1 k (x / 2) j (by omega) hc
    rw [popAux]
    omega
  | k + 1, x, i + 1, j + 1, hij, h, hb, hc => by
    rw [Nat.testBit_succ] at hb hc
    have := pop_ge2 k (x / 2) i j (by omega) (by omega) hb hc
    rw [popAux]
    omega
theorem pop_one {x : Nat} (h : Lib.onesCount x ≤ 1) {i j : Nat} (hi : i < 64) (hj : j < 64) (hb : x.testBit i = true) (hc : x.testBit j = true) : i = j := by
  rcases Nat.lt_trichotomy i j with h1 | h1 | h1
  · have := pop_ge2 64 x i j h1 hj hb hc
    unfold Lib.onesCount at h; omega
  · exact h1
  · have := pop_ge2 64 x j i h1 hi hc hb
    unfold Lib.onesCount at h; omega
def adjB (G : List Nat) (x y : Nat) : Bool := (G.getD x 0).testBit y
def bitS (s : Nat) : Nat → Prop := fun x => s.testBit x = true
theorem bit44 {s x : Nat} (hs : s < 17592186044416) (h : s.testBit x = true) : x < 44 := Classical.byContradiction fun h2 => by
  have h3 : s < 2 ^ x := Nat.lt_of_lt_of_le (show s < 2 ^ 44 by simpa using hs) (Nat.pow_le_pow_right (by decide) (by omega))
  rw [Nat.testBit_lt_two_pow h3] at h
  cases h
theorem pow_bit (i j : Nat) : (2 ^ i).testBit j = decide (i = j) := by rw [Nat.testBit_two_pow]
def szB (s : Nat) : Nat := (listN s).length
theorem szB_lt {s t x : Nat} (hs : s < 17592186044416) (ht : t < 17592186044416) (hsub : ∀ y, t.testBit y = true → s.testBit y = true) (hx : s.testBit x = true) (hn : t.testBit x = false) : szB t < szB s := by
  unfold szB listN
  have hx44 := bit44 hs hx
  have : ∀ l : List Nat, (∀ y, y ∈ l → y ≠ x) → (l.filter fun j => t.testBit j).length ≤ (l.filter fun j => s.testBit j).length := by
    intro l
    induction l with
    | nil => exact fun _ => Nat.le_refl _
    | cons a l ih =>
      intro h
      have := ih (fun y hy => h y (List.mem_cons_of_mem _ hy))
      cases ha : t.testBit a with
      | true => rw [List.filter_cons_of_pos (by exact ha), List.filter_cons_of_pos (by exact hsub a ha)]; simpa using this
      | false =>
        rw [List.filter_cons_of_neg (by rw [ha]; decide)]
        cases hb : s.testBit a with
        | true => rw [List.filter_cons_of_pos (by exact hb), List.length_cons]; omega
        | false => rw [List.filter_cons_of_neg (by rw [hb]; decide)]; exact this
  have e : List.range 62 = List.range x ++ x :: List.range' (x + 1) (61 - x) := by
    rw [List.range_eq_range', List.range_eq_range', ← List.range'_succ, show 61 - x + 1 = 62 - x by omega]
    have := @List.range'_append_1 0 x (62 - x)
    rw [Nat.zero_add, show x + (62 - x) = 62 by omega] at this
    exact this.symm
  rw [e, List.filter_append, List.filter_append, List.length_append, List.length_append, List.filter_cons_of_neg (by rw [hn]; decide), List.filter_cons_of_pos (by exact hx), List.length_cons]
  have h1 := this (List.range x) (fun y hy => by have := List.mem_range.1 hy; omega)
  have h2 := this (List.range' (x + 1) (61 - x)) (fun y hy => by have := (List.mem_range'_1.1 hy).1; omega)
  omega
theorem szB_le {s : Nat} : szB s ≤ 62 := by
  unfold szB listN
  have := List.length_filter_le (fun j => s.testBit j) (List.range 62)
  rwa [List.length_range] at this
theorem gmem_f (x : Nat) (hx : x < 17592186044416) (k : Nat) (hk : 64 < k) : gate_members.f k (x : Int) = some (nI (listN x)) := by
  rw [members_f x (by omega) k hk]
  unfold membI nI
  congr 2
  unfold GT.memb listN
  have e : List.range 64 = List.range 62 ++ [62, 63] := by decide
  rw [e, List.filter_append]
  have h1 : ∀ i, 44 ≤ i → x.testBit i = false := fun i hi => by
    cases h : x.testBit i with
    | false => rfl
    | true => have := bit44 hx h; omega
  rw [List.filter_cons_of_neg (by rw [h1 62 (by decide)]; decide), List.filter_cons_of_neg (by rw [h1 63 (by decide)]; decide), List.filter_nil, List.append_nil]
structure GOk (G : List Nat) : Prop where
  len : G.length ≤ 44
  lt : ∀ x, G.getD x 0 < 17592186044416
  sym : ∀ x y, adjB G x y = adjB G y x
  irr : ∀ x, adjB G x x = false
theorem bits_off (G : List Nat) {s c : Nat} : ∀ x, bitS (andn (andn s (G.getD c 0)) (2 ^ c)) x ↔ GT.off (adjB G) (bitS s) c x := fun x => by
  show (andn (andn s (G.getD c 0)) (2 ^ c)).testBit x = true ↔ (s.testBit x = true ∧ x ≠ c ∧ (G.getD c 0).testBit x = false)
  rw [testBit_andn, testBit_andn, pow_bit]
  by_cases h : c = x
  · subst h; simp
  · have h' : ¬ x = c := fun e => h e.symm
    cases s.testBit x <;> cases (G.getD c 0).testBit x <;> simp [h, h']
theorem bits_less {s c : Nat} : ∀ x, bitS (andn s (2 ^ c)) x ↔ (bitS s x ∧ x ≠ c) := fun x => by
  unfold bitS
  rw [testBit_andn, pow_bit]
  by_cases h : c = x
  · subst h; simp
  · have h' : ¬ x = c := fun e => h e.symm
    cases s.testBit x <;> simp [h, h']
theorem ones_le64 (x : Nat) : Lib.onesCount x ≤ 64 := ones_le _
theorem nI_getD {G : List Nat} {x : Nat} (h : x < G.length) : rd (nI G) (x : Int) = ((G.getD x 0 : Nat) : Int) := by
  rw [nI_rdr h, List.getD_eq_getElem?_getD, List.getElem?_eq_getElem h]
  rfl
theorem shlu1' (i : Nat) (hi : i ≤ 63) : shl .u64 1 (i : Int) = ((2 ^ i : Nat) : Int) := shlu1 i hi
theorem pow44lt {i : Nat} (h : i < 44) : 2 ^ i < 17592186044416 := by
  have h1 : 2 ^ i < 2 ^ 44 := Nat.pow_lt_pow_right (by decide) h
  simpa using h1
theorem gmost_l0 (G : List Nat) (hG : GOk G) (s : Nat) (hs : s < 17592186044416) (hsl : ∀ x, s.testBit x = true → x < G.length) (K : Nat)
    (hrec : ∀ t k : Nat, t < 17592186044416 → (∀ x, t.testBit x = true → s.testBit x = true) → (∃ x, s.testBit x = true ∧ t.testBit x = false) → K ≤ k → ∃ m, gate_graph_most.f k (nI G) (t : Int) = some ((m : Nat) : Int) ∧ GT.Al (adjB G) (bitS t) m ∧ m ≤ 62) :
    ∀ (d j : Nat) (x5 x6 : Int) (k : Nat), (listN s).length - j = d → j ≤ (listN s).length → K + d + 1 ≤ k → ((x6 = -1 ∧ j = 0) ∨ (∃ b : Nat, x5 = (b : Int) ∧ s.testBit b = true)) → (j = (listN s).length → ∃ b : Nat, x5 = (b : Int) ∧ s.testBit b = true) →
    ∃ m, gate_graph_most.l0 k (nI G) (s : Int) x5 x6 (nI (listN s)) (((listN s).length : Nat) : Int) (j : Int) = some ((m : Nat) : Int) ∧ GT.Al (adjB G) (bitS s) m := by
  have hnl : (nI (listN s)).length = (listN s).length := by simp [nI]
  have hgl : (nI G).length = G.length := by simp [nI]
  have hlen62 : (listN s).length ≤ 62 := szB_le
  intro d
  induction d with
  | zero =>
    intro j x5 x6 k hd hj hk hx hfin
    obtain ⟨k, rfl⟩ : ∃ q, k = q + 1 := ⟨k - 1, by clear hx hfin; omega⟩
    obtain ⟨b, rfl, hb⟩ := hfin (by clear hx hfin; omega)
    clear hx hfin
    have hbl := hsl b hb
    have hb44 := bit44 hs hb
    have hp := pow44lt hb44
    have hgb := hG.lt b
    have ha := andn_le44 (y := G.getD b 0) hs
    have ho : andn (andn s (G.getD b 0)) (2 ^ b) < 17592186044416 := andn_le44 ha
    have hq : andn s (2 ^ b) < 17592186044416 := andn_le44 hs
    have hno : (andn (andn s (G.getD b 0)) (2 ^ b)).testBit b = false := by rw [testBit_andn, pow_bit]; simp
    have hnq : (andn s (2 ^ b)).testBit b = false := by rw [testBit_andn, pow_bit]; simp
    obtain ⟨m1, e1, a1, l1⟩ := hrec _ k ho (fun x hx => by
      rw [testBit_andn, testBit_andn, Bool.and_eq_true, Bool.and_eq_true] at hx
      exact hx.1.1) ⟨b, hb, hno⟩ (by omega)
    obtain ⟨m2, e2, a2, l2⟩ := hrec _ k hq (fun x hx => by
      rw [testBit_andn, Bool.and_eq_true] at hx
      exact hx.1) ⟨b, hb, hnq⟩ (by omega)
    refine ⟨max (1 + m1) m2, ?_, GT.Al.branch hG.sym hb (a2.congr bits_less) (a1.congr (bits_off G))⟩
    rw [gate_graph_most.l0, if_neg (by omega), if_pos (by omega), if_pos (by omega), nI_getD hbl, shlu1' b (by omega), andnu s _ (by omega) (by omega), andnu _ (2 ^ b) (by omega) (by omega), andnu s (2 ^ b) (by omega) (by omega), e1, Option.bind_some, e2, Option.bind_some]
    congr 1
    unfold mx
    rw [w64 (by omega) (by omega)]
    split <;> omega
  | succ d ih =>
    intro j x5 x6 k hd hj hk hx hfin
    obtain ⟨k, rfl⟩ : ∃ q, k = q + 1 := ⟨k - 1, by clear hx hfin; omega⟩
    have hjl : j < (listN s).length := by clear hx hfin; omega
    have hkk : K + d + 1 ≤ k := by clear hx hfin; omega
    have hdd : (listN s).length - (j + 1) = d := by clear hx hfin; omega
    obtain ⟨f, hf⟩ : ∃ f, (listN s)[j] = f := ⟨_, rfl⟩
    have hfb : s.testBit f = true := (mem_listN hs).1 (hf ▸ List.getElem_mem hjl)
    have hfl := hsl f hfb
    have hf44 := bit44 hs hfb
    have hp := pow44lt hf44
    have hgf := hG.lt f
    have hrdj : rd (nI (listN s)) (j : Int) = (f : Int) := by rw [nI_rdr hjl, hf]
    have hw : ∀ _ : Unit, wrap64 ((j : Int) + 1) = ((j + 1 : Nat) : Int) := fun _ => by clear hx hfin; rw [w64 (by omega) (by omega)]; omega
    have hand : G.getD f 0 &&& s < 17592186044416 := Nat.lt_of_le_of_lt Nat.and_le_right hs
    have hc := ones_le64 (G.getD f 0 &&& s)
    have c1 : (j : Int) < ((listN s).length : Int) := by clear hx hfin; omega
    have c2 : (0 : Int) ≤ (j : Int) := by clear hx hfin; omega
    have c3 : (j : Int) < ((nI (listN s)).length : Int) := by clear hx hfin; omega
    have c4 : (0 : Int) ≤ (f : Int) := by clear hx hfin; omega
    have c5 : (f : Int) < ((nI G).length : Int) := by clear hx hfin; omega
    rw [gate_graph_most.l0, if_pos c1, if_pos c2, if_pos c3, hrdj, if_pos c4, if_pos c5, nI_getD hfl, andu64 _ s (by clear hx hfin; omega) (by clear hx hfin; omega), many_f _ (by clear hx hfin; omega), Option.bind_some, hw ()]
    by_cases h1 : Lib.onesCount (G.getD f 0 &&& s) ≤ 1
    · rw [if_pos (by clear hx hfin; omega), shlu1' f (by clear hx hfin; omega), andnu s _ (by clear hx hfin; omega) (by clear hx hfin; omega)]
      have ha := andn_le44 (y := G.getD f 0) hs
      rw [andnu _ (2 ^ f) (by clear hx hfin; omega) (by clear hx hfin; omega)]
      have ho : andn (andn s (G.getD f 0)) (2 ^ f) < 17592186044416 := andn_le44 ha
      have hno : (andn (andn s (G.getD f 0)) (2 ^ f)).testBit f = false := by rw [testBit_andn, pow_bit]; simp
      obtain ⟨m1, e1, a1, l1⟩ := hrec _ k ho (fun x hx => by
        rw [testBit_andn, testBit_andn, Bool.and_eq_true, Bool.and_eq_true] at hx
        exact hx.1.1) ⟨f, hfb, hno⟩ (by clear hx hfin; omega)
      rw [e1, Option.bind_some]
      refine ⟨1 + m1, ?_, GT.Al.leaf hG.sym hfb (fun x y hx hy hxn hyn hax hay => ?_) (a1.congr (bits_off G))⟩
      · congr 1
        clear hx hfin
        rw [w64 (by omega) (by omega)]; omega
      · refine pop_one h1 (Nat.lt_of_lt_of_le (bit44 hs hx) (by decide)) (Nat.lt_of_lt_of_le (bit44 hs hy) (by decide)) ?_ ?_
        · rw [Nat.testBit_and]; unfold adjB at hax; rw [hax]; exact hx
        · rw [Nat.testBit_and]; unfold adjB at hay; rw [hay]; exact hy
    · rw [if_neg (by clear hx hfin; omega)]
      by_cases h2 : ((Lib.onesCount (G.getD f 0 &&& s) : Nat) : Int) > x6
      · rw [if_pos h2]
        exact ih (j + 1) _ _ k hdd (by clear hx hfin; omega) hkk (.inr ⟨f, rfl, hfb⟩) (fun _ => ⟨f, rfl, hfb⟩)
      · rw [if_neg h2]
        have hb : ∃ b : Nat, x5 = (b : Int) ∧ s.testBit b = true := by
          rcases hx with ⟨hx, _⟩ | hx
          · exfalso
            clear hfin
            omega
          · exact hx
        exact ih (j + 1) _ _ k hdd (by clear hx hfin hb; omega) hkk (.inr hb) (fun _ => hb)
theorem al_le62 {G : List Nat} {s m : Nat} (hs : s < 17592186044416) (h : GT.Al (adjB G) (bitS s) m) : m ≤ 62 := by
  obtain ⟨⟨T, h1, h2, h3⟩, _⟩ := h
  have := GT.nodup_len 62 T h1.1 (fun x hx => Nat.lt_of_lt_of_le (bit44 hs (h2 x hx)) (by decide))
  omega
theorem gmost_f (G : List Nat) (hG : GOk G) : ∀ (n s k : Nat), szB s ≤ n → s < 17592186044416 → (∀ x, s.testBit x = true → x < G.length) → 200 * n + 100 ≤ k →
    ∃ m, gate_graph_most.f k (nI G) (s : Int) = some ((m : Nat) : Int) ∧ GT.Al (adjB G) (bitS s) m ∧ m ≤ 62 := by
  intro n
  induction n with
  | zero =>
    intro s k hn hs hsl hk
    obtain ⟨k, rfl⟩ : ∃ q, k = q + 1 := ⟨k - 1, by omega⟩
    have h0 : s = 0 := by
      refine Nat.eq_of_testBit_eq fun j => ?_
      rw [Nat.zero_testBit]
      cases hj : s.testBit j with
      | false => rfl
      | true =>
        have h1 := (mem_listN hs).2 hj
        unfold szB at hn
        rw [List.length_eq_zero_iff.1 (Nat.le_zero.1 hn)] at h1
        simp at h1
    rw [gate_graph_most.f, if_pos (by omega)]
    exact ⟨0, rfl, GT.Al.empty (fun x h => by unfold bitS at h; rw [h0, Nat.zero_testBit] at h; cases h), by decide⟩
  | succ n ih =>
    intro s k hn hs hsl hk
    obtain ⟨k, rfl⟩ : ∃ q, k = q + 1 := ⟨k - 1, by omega⟩
    rw [gate_graph_most.f]
    by_cases h0 : s = 0
    · rw [if_pos (by omega)]
      exact ⟨0, rfl, GT.Al.empty (fun x h => by unfold bitS at h; rw [h0, Nat.zero_testBit] at h; cases h), by decide⟩
    · have hlen62 : (listN s).length ≤ 62 := szB_le
      rw [if_neg (by omega), gmem_f s hs k (by omega), Option.bind_some]
      have hnl : (nI (listN s)).length = (listN s).length := by simp [nI]
      rw [hnl]
      have hne : (listN s).length ≠ 0 := fun e => h0 (by
        refine Nat.eq_of_testBit_eq fun j => ?_
        rw [Nat.zero_testBit]
        cases hj : s.testBit j with
        | false => rfl
        | true =>
          have h1 := (mem_listN hs).2 hj
          rw [List.length_eq_zero_iff.1 e] at h1
          simp at h1)
      obtain ⟨m, e, a⟩ := gmost_l0 G hG s hs hsl (200 * n + 100) (fun t k2 ht hsub hx hk2 => by
        obtain ⟨x, hx1, hx2⟩ := hx
        have := szB_lt hs ht hsub hx1 hx2
        exact ih t k2 (by omega) ht (fun y hy => hsl y (hsub y hy)) hk2) (listN s).length 0 (-1) (-1) k (by omega) (by omega) (by omega) (.inl ⟨rfl, rfl⟩) (fun e => absurd e.symm hne)
      exact ⟨m, e, a, al_le62 hs a⟩
end Go.Proofs.Ytelfalicickelaa.P
set_option linter.unusedSimpArgs false
set_option linter.unusedVariables false
namespace Go.Proofs.Ytelfalicickelaa.P
open Go.Lib Go.RowKit Go.Proofs.YtelfalicickelaaW.PrintWords Go.Proofs.YtelfalicickelaaW.PrintLast Go.Proofs.YtelfalicickelaaW.PrintMore Go.Proofs.Ytelfalicickelaa.Kit
theorem rmost_l0 (A : List Nat) (hA : GOk A) (s : Nat) (hs : s < 17592186044416) (hs0 : s ≠ 0) (hsl : ∀ x, s.testBit x = true → x < A.length) : ∀ (d i : Nat) (x5 x6 : Int) (k K : Nat), 62 - i = d → i ≤ 62 → 63 ≤ K →
    ((∃ b : Nat, x5 = (b : Int) ∧ s.testBit b = true) ∨ (x5 = -1 ∧ ∀ j, j < i → s.testBit j = false)) → K + d + 1 ≤ k →
    ∃ (b : Nat) (k' : Nat), K ≤ k' ∧ s.testBit b = true ∧ neonwrightref07_most.l0 k (nI A) (s : Int) x5 x6 (i : Int) = neonwrightref07_most.l1 k' (nI A) (s : Int) 0 (nI (listN ((A.getD b 0 ||| 2 ^ b) &&& s))) 0 := by
  have hgl : (nI A).length = A.length := by simp [nI]
  have hend : ∀ i, 44 ≤ i → s / 2 ^ i = 0 := fun i hi => by
    have h1 : s < 2 ^ 44 := by simpa using hs
    exact Nat.div_eq_of_lt (Nat.lt_of_lt_of_le h1 (Nat.pow_le_pow_right (by decide) hi))
  have hfin : ∀ (i : Nat) (x5 x6 : Int) (k K : Nat), i ≤ 62 → 63 ≤ K → s / 2 ^ i = 0 → ((∃ b : Nat, x5 = (b : Int) ∧ s.testBit b = true) ∨ (x5 = -1 ∧ ∀ j, j < i → s.testBit j = false)) → K + 1 ≤ k →
      ∃ (b : Nat) (k' : Nat), K ≤ k' ∧ s.testBit b = true ∧ neonwrightref07_most.l0 k (nI A) (s : Int) x5 x6 (i : Int) = neonwrightref07_most.l1 k' (nI A) (s : Int) 0 (nI (listN ((A.getD b 0 ||| 2 ^ b) &&& s))) 0 := by
    intro i x5 x6 k K hi hK h0 hx hk
    obtain ⟨k, rfl⟩ : ∃ q, k = q + 1 := ⟨k - 1, by clear hx; omega⟩
    rcases hx with ⟨b, rfl, hb⟩ | ⟨_, hj⟩
    · have hbl := hsl b hb
      have hb44 := bit44 hs hb
      have hp := pow44lt hb44
      have hgb := hA.lt b
      have hor : A.getD b 0 ||| 2 ^ b < 17592186044416 := by
        have h1 : A.getD b 0 < 2 ^ 44 := by simpa using hgb
        have h2 : 2 ^ b < 2 ^ 44 := by simpa using hp
        have := Nat.or_lt_two_pow h1 h2
        simpa using this
      have hand : (A.getD b 0 ||| 2 ^ b) &&& s < 17592186044416 := Nat.lt_of_le_of_lt Nat.and_le_right hs
      refine ⟨b, k, by omega, hb, ?_⟩
      rw [neonwrightref07_most.l0, if_pos (by omega), shrn (by omega), h0, if_neg (by decide), if_pos (by omega), if_pos (by omega), nI_getD hbl, shl1n (by omega), or64 _ _ (by omega) (by omega), and64 _ _ (by omega) (by omega), rlisted_f _ (by omega) k (by omega), Option.bind_some]
    · exfalso
      apply hs0
      refine Nat.eq_of_testBit_eq fun j => ?_
      rw [Nat.zero_testBit]
      by_cases h : j < i
      · exact hj j h
      · exact div_zero_bits h0 (by omega)
  intro d
  induction d with
  | zero =>
    intro i x5 x6 k K hd hi hK hx hk
    exact hfin i x5 x6 k K hi hK (hend i (by clear hx; omega)) hx (by clear hx; omega)
  | succ d ih =>
    intro i x5 x6 k K hd hi hK hx hk
    by_cases h0 : s / 2 ^ i = 0
    · exact hfin i x5 x6 k K hi hK h0 hx (by clear hx; omega)
    · obtain ⟨k, rfl⟩ : ∃ q, k = q + 1 := ⟨k - 1, by clear hx; omega⟩
      have hw : ∀ _ : Unit, wrap64 ((i : Int) + 1) = ((i + 1 : Nat) : Int) := fun _ => by clear hx hfin ih; rw [w64 (by omega) (by omega)]; omega
      have hq : ((s / 2 ^ i : Nat) : Int) > 0 := by clear hx; generalize s / 2 ^ i = q at *; omega
      have a0 : (0 : Int) ≤ (i : Int) := by clear hx hfin ih; omega
      rw [neonwrightref07_most.l0, if_pos a0, shrt s i (by clear hx hfin ih; omega), shrn (by clear hx hfin ih; omega), if_pos hq, hw ()]
      clear hq h0
      have a1 : 62 - (i + 1) = d := by clear hx ih hfin; omega
      have a2 : i + 1 ≤ 62 := by clear hx ih hfin; omega
      have a3 : K + d + 1 ≤ k := by clear hx ih hfin; omega
      have a4 : 63 ≤ k := by clear hx ih hfin; omega
      have a5 : i ≤ 62 := hi
      clear hd hk
      cases hb : s.testBit i with
      | false =>
        rw [if_neg (show ¬ ((false.toNat : Nat) : Int) = 1 by decide)]
        refine ih (i + 1) x5 x6 k K a1 a2 hK ?_ a3
        rcases hx with h | ⟨h1, h2⟩
        · exact .inl h
        · refine .inr ⟨h1, fun j hj => ?_⟩
          by_cases e : j = i
          · rw [e]; exact hb
          · exact h2 j (by clear ih hfin h2; omega)
      | true =>
        have hil := hsl i hb
        have hgb := hA.lt i
        have hand : A.getD i 0 &&& s < 17592186044416 := Nat.lt_of_le_of_lt Nat.and_le_right hs
        have c1 : (i : Int) < ((nI A).length : Int) := by clear hx ih hfin; omega
        have c2 : A.getD i 0 < 9223372036854775808 := by clear hx ih hfin; omega
        have c3 : s < 9223372036854775808 := by clear hx ih hfin; omega
        have c4 : A.getD i 0 &&& s < 4611686018427387904 := by clear hx ih hfin; omega
        rw [if_pos (show ((true.toNat : Nat) : Int) = 1 from rfl), if_pos c1, nI_getD hil, and64 _ _ c2 c3, rlisted_f _ c4 k a4, Option.bind_some]
        by_cases h5 : x5 < 0
        · rw [if_pos h5]
          exact ih (i + 1) _ _ k K a1 a2 hK (.inl ⟨i, rfl, hb⟩) a3
        · rw [if_neg h5]
          have hx' : ∃ b : Nat, x5 = (b : Int) ∧ s.testBit b = true := by
            rcases hx with h | ⟨h1, _⟩
            · exact h
            · exact absurd (by rw [h1]; decide) h5
          split
          · exact ih (i + 1) _ _ k K a1 a2 hK (.inl ⟨i, rfl, hb⟩) a3
          · exact ih (i + 1) _ _ k K a1 a2 hK (.inl hx') a3
theorem rmost_l1 (A : List Nat) (hA : GOk A) (s : Nat) (hs : s < 17592186044416) (hsl : ∀ x, s.testBit x = true → x < A.length) (K : Nat)
    (hrec : ∀ t k : Nat, t < 17592186044416 → (∀ x, t.testBit x = true → s.testBit x = true) → (∃ x, s.testBit x = true ∧ t.testBit x = false) → K ≤ k → ∃ m, neonwrightref07_most.f k (nI A) (t : Int) = some ((m : Nat) : Int) ∧ GT.Al (adjB A) (bitS t) m ∧ m ≤ 62)
    (ls : List Nat) (hls : ∀ l, l ∈ ls → s.testBit l = true) (hlen : ls.length ≤ 62) :
    ∀ (d j n k : Nat), ls.length - j = d → j ≤ ls.length → n ≤ 63 → K + d + 1 ≤ k →
    ∃ n', neonwrightref07_most.l1 k (nI A) (s : Int) (n : Int) (nI ls) (j : Int) = some ((n' : Nat) : Int) ∧ n ≤ n' ∧ n' ≤ 63 ∧ (∀ l, l ∈ ls.drop j → ∃ m, GT.Al (adjB A) (GT.off (adjB A) (bitS s) l) m ∧ 1 + m ≤ n') ∧ (n' = n ∨ ∃ l, l ∈ ls.drop j ∧ ∃ m, GT.Al (adjB A) (GT.off (adjB A) (bitS s) l) m ∧ n' = 1 + m) := by
  have hnl : (nI ls).length = ls.length := by simp [nI]
  have hgl : (nI A).length = A.length := by simp [nI]
  intro d
  induction d with
  | zero =>
    intro j n k hd hj hn hk
    obtain ⟨k, rfl⟩ : ∃ q, k = q + 1 := ⟨k - 1, by omega⟩
    refine ⟨n, ?_, Nat.le_refl _, hn, fun l hl => ?_, .inl rfl⟩
    · rw [neonwrightref07_most.l1, if_neg (by omega)]
    · rw [List.drop_eq_nil_of_le (by omega)] at hl; simp at hl
  | succ d ih =>
    intro j n k hd hj hn hk
    obtain ⟨k, rfl⟩ : ∃ q, k = q + 1 := ⟨k - 1, by omega⟩
    have hjl : j < ls.length := by omega
    have hkk : K + d + 1 ≤ k := by omega
    have hkK : K ≤ k := by omega
    have hdd : ls.length - (j + 1) = d := by omega
    have hw : ∀ _ : Unit, wrap64 ((j : Int) + 1) = ((j + 1 : Nat) : Int) := fun _ => by rw [w64 (by omega) (by omega)]; omega
    obtain ⟨l, hl⟩ : ∃ l, ls[j] = l := ⟨_, rfl⟩
    have hlb := hls l (hl ▸ List.getElem_mem hjl)
    have hll := hsl l hlb
    have hl44 := bit44 hs hlb
    have hp := pow44lt hl44
    have hgl2 := hA.lt l
    have ha := andn_le44 (y := A.getD l 0) hs
    have ho : andn (andn s (A.getD l 0)) (2 ^ l) < 17592186044416 := andn_le44 ha
    have hno : (andn (andn s (A.getD l 0)) (2 ^ l)).testBit l = false := by rw [testBit_andn, pow_bit]; simp
    obtain ⟨m, e1, a1, l1⟩ := hrec _ k ho (fun x hx => by
      rw [testBit_andn, testBit_andn, Bool.and_eq_true, Bool.and_eq_true] at hx
      exact hx.1.1) ⟨l, hlb, hno⟩ hkK
    have a1' := a1.congr (bits_off A (s := s) (c := l))
    have hwm : ∀ _ : Unit, mx (n : Int) (wrap64 (1 + ((m : Nat) : Int))) = ((max n (1 + m) : Nat) : Int) := fun _ => by
      unfold mx
      rw [w64 (by omega) (by omega)]
      split <;> omega
    obtain ⟨n', i1, i2, i3, i4, i5⟩ := ih (j + 1) (max n (1 + m)) k hdd (by omega) (by omega) hkk
    have hrdj : rd (nI ls) (j : Int) = (l : Int) := by rw [nI_rdr hjl, hl]
    refine ⟨n', ?_, by omega, i3, fun l' hl' => ?_, ?_⟩
    · rw [neonwrightref07_most.l1, if_pos (by omega), if_pos (by omega), hrdj, if_pos (by omega), if_pos (by omega), nI_getD hll, shl1n (by omega), andn64 s _ (by omega) (by omega), andn64 _ (2 ^ l) (by omega) (by omega), e1, Option.bind_some, hwm (), hw ()]
      exact i1
    · rw [List.drop_eq_getElem_cons hjl, hl] at hl'
      rcases List.mem_cons.1 hl' with rfl | hl'
      · exact ⟨m, a1', by omega⟩
      · exact i4 l' hl'
    · rw [List.drop_eq_getElem_cons hjl, hl]
      rcases i5 with h | ⟨l', hl', m', h1, h2⟩
      · by_cases hc : n ≤ 1 + m
        · exact .inr ⟨l, List.mem_cons_self, m, a1', by omega⟩
        · exact .inl (by omega)
      · exact .inr ⟨l', List.mem_cons_of_mem _ hl', m', h1, h2⟩
theorem rmost_f (A : List Nat) (hA : GOk A) : ∀ (n s k : Nat), szB s ≤ n → s < 17592186044416 → (∀ x, s.testBit x = true → x < A.length) → 200 * n + 200 ≤ k →
    ∃ m, neonwrightref07_most.f k (nI A) (s : Int) = some ((m : Nat) : Int) ∧ GT.Al (adjB A) (bitS s) m ∧ m ≤ 62 := by
  have hz : ∀ k, neonwrightref07_most.f (k + 1) (nI A) ((0 : Nat) : Int) = some ((0 : Nat) : Int) ∧ GT.Al (adjB A) (bitS 0) 0 := fun k => by
    refine ⟨?_, GT.Al.empty (fun x h => by unfold bitS at h; rw [Nat.zero_testBit] at h; cases h)⟩
    rw [neonwrightref07_most.f, if_pos (show ((0 : Nat) : Int) = 0 from rfl)]
    rfl
  intro n
  induction n with
  | zero =>
    intro s k hn hs hsl hk
    obtain ⟨k, rfl⟩ : ∃ q, k = q + 1 := ⟨k - 1, by omega⟩
    have h0 : s = 0 := by
      refine Nat.eq_of_testBit_eq fun j => ?_
      rw [Nat.zero_testBit]
      cases hj : s.testBit j with
      | false => rfl
      | true =>
        have h1 := (mem_listN hs).2 hj
        unfold szB at hn
        rw [List.length_eq_zero_iff.1 (Nat.le_zero.1 hn)] at h1
        simp at h1
    rw [h0]
    exact ⟨0, (hz k).1, (hz k).2, by decide⟩
  | succ n ih =>
    intro s k hn hs hsl hk
    obtain ⟨k, rfl⟩ : ∃ q, k = q + 1 := ⟨k - 1, by omega⟩
    by_cases h0 : s = 0
    · rw [h0]
      exact ⟨0, (hz k).1, (hz k).2, by decide⟩
    · rw [neonwrightref07_most.f, if_neg (by omega)]
      obtain ⟨b, k', hk', hb, e⟩ := rmost_l0 A hA s hs h0 hsl 62 0 (-1) 0 k (200 * n + 200 - 1 + 70) rfl (by omega) (by omega) (.inr ⟨rfl, fun j hj => absurd hj (Nat.not_lt_zero _)⟩) (by omega)
      rw [show ((0 : Nat) : Int) = 0 from rfl] at e
      rw [e]
      have hand : (A.getD b 0 ||| 2 ^ b) &&& s < 17592186044416 := Nat.lt_of_le_of_lt Nat.and_le_right hs
      have hmem : ∀ l, l ∈ listN ((A.getD b 0 ||| 2 ^ b) &&& s) ↔ (s.testBit l = true ∧ (l = b ∨ adjB A b l = true)) := fun l => by
        rw [mem_listN hand, Nat.testBit_and, Nat.testBit_or, pow_bit, Bool.and_eq_true, Bool.or_eq_true, decide_eq_true_iff]
        unfold adjB
        constructor
        · rintro ⟨h1 | h1, h2⟩
          · exact ⟨h2, .inr h1⟩
          · exact ⟨h2, .inl h1.symm⟩
        · rintro ⟨h2, h1 | h1⟩
          · exact ⟨.inr h1.symm, h2⟩
          · exact ⟨.inl h1, h2⟩
      obtain ⟨n', i1, i2, i3, i4, i5⟩ := rmost_l1 A hA s hs hsl (200 * n + 200) (fun t k2 ht hsub hx hk2 => by
        obtain ⟨x, hx1, hx2⟩ := hx
        have := szB_lt hs ht hsub hx1 hx2
        exact ih t k2 (by omega) ht (fun y hy => hsl y (hsub y hy)) hk2) (listN ((A.getD b 0 ||| 2 ^ b) &&& s)) (fun l hl => ((hmem l).1 hl).1) szB_le _ 0 0 k' rfl (Nat.zero_le _) (by omega) (by have := @szB_le ((A.getD b 0 ||| 2 ^ b) &&& s); unfold szB at this; omega)
      rw [show ((0 : Nat) : Int) = 0 from rfl] at i1
      rw [List.drop_zero] at i4 i5
      have hal : GT.Al (adjB A) (bitS s) n' := by
        have hbm := (hmem b).2 ⟨hb, .inl rfl⟩
        obtain ⟨mb, hmb, hmb2⟩ := i4 b hbm
        refine GT.Al.near hA.sym (c := b) hb (fun l m hl hlc hm => ?_) (fun l hl hlc => ?_) ?_
        · obtain ⟨m', h1, h2⟩ := i4 l ((hmem l).2 ⟨hl, hlc⟩)
          have := h1.unique hm
          omega
        · obtain ⟨m', h1, _⟩ := i4 l ((hmem l).2 ⟨hl, hlc⟩)
          exact ⟨m', h1⟩
        · rcases i5 with h | ⟨l, hl, m, h1, h2⟩
          · omega
          · exact ⟨l, m, ((hmem l).1 hl).1, h1, h2⟩
      exact ⟨n', i1, hal, al_le62 hs hal⟩
end Go.Proofs.Ytelfalicickelaa.P
set_option linter.unusedSimpArgs false
set_option linter.unusedVariables false
namespace Go.Proofs.Ytelfalicickelaa.P
open Go.Lib Go.RowKit Go.Proofs.YtelfalicickelaaW.PrintWords Go.Proofs.YtelfalicickelaaW.PrintLast Go.Proofs.YtelfalicickelaaW.PrintMore Go.Proofs.Ytelfalicickelaa.Kit
def pG (W : List Nat) (i j : Nat) : Bool := decide (i ≠ j) && (W.getD i 0 &&& W.getD j 0 != 0)
def rowG (W : List Nat) (i j : Nat) : Nat := GT.num ((List.range j).map (pG W i))
def Rw (W : List Nat) (i j r : Nat) : Nat := if r < i then rowG W r W.length else if r = i then rowG W i j else 0
def gx (W : List Nat) (i j : Nat) : List Int := nI ((List.range W.length).map (Rw W i j))
def rowsG (W : List Nat) : List Nat := (List.range W.length).map fun i => rowG W i W.length
theorem gx_len (W : List Nat) (i j : Nat) : (gx W i j).length = W.length := by simp [gx, nI]
theorem rowG_lt {W : List Nat} (hW : W.length ≤ 44) {i j : Nat} (hj : j ≤ W.length) : rowG W i j < 17592186044416 :=
  Nat.lt_of_lt_of_le (num_range_lt _ _) (pow44 (by omega))
theorem rowG_bit (W : List Nat) (i j x : Nat) : (rowG W i j).testBit x = (decide (x < j) && pG W i x) := num_range_bit _ _ _
theorem gx_rd {W : List Nat} {i j : Nat} (hi : i < W.length) : rd (gx W i j) (i : Int) = ((rowG W i j : Nat) : Int) := by
  unfold gx
  rw [nI_rdr (by simpa using hi)]
  simp [Rw]
theorem gx_set {W : List Nat} {i j : Nat} (hi : i < W.length) : (gx W i j).set i ((rowG W i (j + 1) : Nat) : Int) = gx W i (j + 1) := by
  refine List.ext_getElem (by simp [gx, nI]) fun r h1 h2 => ?_
  rw [List.getElem_set]
  by_cases h : i = r
  · subst h; simp [gx, nI, Rw]
  · have h' : ¬ r = i := fun e => h e.symm
    simp [gx, nI, Rw, h, h']
theorem gx_skip {W : List Nat} {i j : Nat} (h : pG W i j = false) : gx W i j = gx W i (j + 1) := by
  unfold gx
  congr 1
  refine List.map_congr_left fun r _ => ?_
  unfold Rw
  have e : rowG W i (j + 1) = rowG W i j := by
    unfold rowG
    rw [num_range_succ, h]
    simp
  rw [e]
theorem gx_next {W : List Nat} {i : Nat} : gx W i W.length = gx W (i + 1) 0 := by
  unfold gx
  congr 1
  refine List.map_congr_left fun r _ => ?_
  unfold Rw
  by_cases h1 : r < i
  · rw [if_pos h1, if_pos (by omega)]
  · rw [if_neg h1]
    by_cases h2 : r = i
    · rw [if_pos h2, if_pos (by omega), h2]
    · rw [if_neg h2, if_neg (by omega)]
      split
      · rfl
      · rfl
theorem ap_l1 (W : List Nat) (hW : W.length ≤ 44) (h64 : ∀ x, x ∈ W → x < 18446744073709551616) (fs : List Int) (i : Nat) (hi : i < W.length) (wi : Nat) (hwi : W.getD i 0 = wi) : ∀ (d j k : Nat), W.length - j = d → j ≤ W.length →
    gate_ApartT.l1 (k + d + 1) (nI W) fs (gx W i j) (i : Int) (wi : Int) (nI W) ((W.length : Nat) : Int) (i : Int) (nI W) ((W.length : Nat) : Int) (j : Int) = gate_ApartT.l0 k (nI W) fs (gx W (i + 1) 0) (nI W) ((W.length : Nat) : Int) ((i + 1 : Nat) : Int) := by
  have hnl : (nI W).length = W.length := by simp [nI]
  intro d
  induction d with
  | zero =>
    intro j k hd hj
    have hw : ∀ _ : Unit, wrap64 ((i : Int) + 1) = ((i + 1 : Nat) : Int) := fun _ => by rw [w64 (by omega) (by omega)]; omega
    rw [Nat.add_zero, gate_ApartT.l1, if_neg (by omega), hw (), show j = W.length by omega, gx_next]
  | succ d ih =>
    intro j k hd hj
    have hjl : j < W.length := by omega
    have hw : ∀ _ : Unit, wrap64 ((j : Int) + 1) = ((j + 1 : Nat) : Int) := fun _ => by rw [w64 (by omega) (by omega)]; omega
    have hrj : rd (nI W) (j : Int) = ((W.getD j 0 : Nat) : Int) := by
      rw [nI_rdr hjl, List.getD_eq_getElem?_getD, List.getElem?_eq_getElem hjl]; rfl
    have hmem : ∀ x, x < W.length → W.getD x 0 < 18446744073709551616 := fun x hx => by
      rw [List.getD_eq_getElem?_getD, List.getElem?_eq_getElem hx]
      exact h64 _ (List.getElem_mem hx)
    have hi64 : wi < 18446744073709551616 := hwi ▸ hmem i hi
    have hj64 := hmem j hjl
    have hr1 := rowG_lt hW (i := i) (j := j) hj
    have hdd : W.length - (j + 1) = d := by omega
    have c1 : (j : Int) < ((W.length : Nat) : Int) := by omega
    have c2 : (0 : Int) ≤ (j : Int) := by omega
    have c3 : (j : Int) < ((nI W).length : Int) := by omega
    have c4 : (0 : Int) ≤ (i : Int) := by omega
    have c5 : (i : Int) < ((gx W i j).length : Int) := by rw [gx_len]; omega
    rw [show k + (d + 1) + 1 = (k + d + 1) + 1 from rfl, gate_ApartT.l1, if_pos c1, if_pos c2, if_pos c3, hw ()]
    by_cases hij : i = j
    · have hp : pG W i j = false := by unfold pG; rw [decide_eq_false (fun e => e hij), Bool.false_and]
      rw [if_pos (by omega), gx_skip hp]
      exact ih (j + 1) k hdd (by omega)
    · rw [if_neg (by omega), hrj, andu64 wi _ hi64 hj64]
      by_cases h0 : wi &&& W.getD j 0 = 0
      · have hp : pG W i j = false := by unfold pG; rw [hwi, h0]; simp
        rw [if_pos (by omega), gx_skip hp]
        exact ih (j + 1) k hdd (by omega)
      · have hp : pG W i j = true := by unfold pG; rw [hwi, decide_eq_true hij, Bool.true_and]; simpa using h0
        have hlt : rowG W i j < 2 ^ j := num_range_lt _ _
        have hpw := pow44 (i := j) (by omega)
        have hor : rowG W i j ||| 2 ^ j = rowG W i (j + 1) := by
          refine Nat.eq_of_testBit_eq fun x => ?_
          rw [Nat.testBit_or, rowG_bit, rowG_bit, pow_bit]
          by_cases e : j = x
          · subst e; simp [hp]
          · have : (decide (x < j + 1)) = decide (x < j) := by
              rw [Bool.eq_iff_iff, decide_eq_true_iff, decide_eq_true_iff]; omega
            rw [this, decide_eq_false e, Bool.or_false]
        rw [if_neg (by omega), if_pos c4, if_pos c5, gx_rd hi, shlu1 j (by omega), oru64 _ _ (by omega) (by omega), hor, Int.toNat_natCast, gx_set hi]
        exact ih (j + 1) k hdd (by omega)
theorem gx_end (W : List Nat) : gx W W.length 0 = nI (rowsG W) := by
  unfold gx rowsG
  congr 1
  refine List.map_congr_left fun r hr => ?_
  unfold Rw
  rw [if_pos (List.mem_range.1 hr)]
theorem gx_start (W : List Nat) : gx W 0 0 = List.replicate W.length 0 := by
  refine List.ext_getElem (by simp [gx, nI]) fun r h1 h2 => ?_
  simp [gx, nI, Rw, rowG, GT.num]
theorem ap_l0 (W : List Nat) (hW : W.length ≤ 44) (h64 : ∀ x, x ∈ W → x < 18446744073709551616) (fs : List Int) : ∀ (d i k : Nat), W.length - i = d → i ≤ W.length →
    gate_ApartT.l0 (k + 47 * d + 1) (nI W) fs (gx W i 0) (nI W) ((W.length : Nat) : Int) (i : Int) = gate_ApartT.l0 (k + 1 + (47 - W.length - 2) * d) (nI W) fs (nI (rowsG W)) (nI W) ((W.length : Nat) : Int) ((W.length : Nat) : Int) := by
  have hnl : (nI W).length = W.length := by simp [nI]
  intro d
  induction d with
  | zero =>
    intro i k hd hi
    rw [show i = W.length by omega, gx_end]
    rfl
  | succ d ih =>
    intro i k hd hi
    have hil : i < W.length := by omega
    have hri : rd (nI W) (i : Int) = ((W.getD i 0 : Nat) : Int) := by
      rw [nI_rdr hil, List.getD_eq_getElem?_getD, List.getElem?_eq_getElem hil]; rfl
    obtain ⟨e, he⟩ : ∃ e, 47 - W.length - 2 = e := ⟨_, rfl⟩
    have hk : k + 47 * (d + 1) + 1 = ((k + e + 47 * d + 1) + W.length + 1) + 1 := by omega
    rw [hk, gate_ApartT.l0, if_pos (by omega), if_pos (by omega), if_pos (by omega), hri, hnl, show (0 : Int) = ((0 : Nat) : Int) from rfl, ap_l1 W hW h64 fs i hil (W.getD i 0) rfl W.length 0 (k + e + 47 * d + 1) (Nat.sub_zero _) (Nat.zero_le _)]
    rw [ih (i + 1) (k + e) (by omega) (by omega), he]
    congr 1
    rw [Nat.mul_succ]
    omega
theorem GOk_rowsG {W : List Nat} (hW : W.length ≤ 44) : GOk (rowsG W) := by
  have hadj : ∀ x y, adjB (rowsG W) x y = (decide (x < W.length) && decide (y < W.length) && pG W x y) := fun x y => by
    unfold adjB rowsG
    rw [List.getD_eq_getElem?_getD, List.getElem?_map]
    by_cases h : x < W.length
    · rw [List.getElem?_eq_getElem (by simpa using h), decide_eq_true h, Bool.true_and]
      simp [rowG_bit]
    · rw [List.getElem?_eq_none (by simp; omega), decide_eq_false h]
      simp
  refine ⟨by simp [rowsG]; exact hW, fun x => ?_, fun x y => ?_, fun x => ?_⟩
  · unfold rowsG
    rw [List.getD_eq_getElem?_getD, List.getElem?_map]
    by_cases h : x < W.length
    · rw [List.getElem?_eq_getElem (by simpa using h)]
      simpa using rowG_lt hW (i := x) (Nat.le_refl _)
    · rw [List.getElem?_eq_none (by simp; omega)]
      simp
  · rw [hadj, hadj]
    have hp : pG W x y = pG W y x := by
      unfold pG
      rw [Nat.and_comm (W.getD y 0)]
      congr 1
      rw [Bool.eq_iff_iff, decide_eq_true_iff, decide_eq_true_iff]
      exact ⟨fun h e => h e.symm, fun h e => h e.symm⟩
    rw [hp, Bool.and_comm (decide (x < W.length))]
  · rw [hadj]; unfold pG; simp
theorem adj_rowsG (W : List Nat) (x y : Nat) (hx : x < W.length) (hy : y < W.length) : adjB (rowsG W) x y = pG W x y := by
  unfold adjB rowsG
  rw [List.getD_eq_getElem?_getD, List.getElem?_map, List.getElem?_eq_getElem (by simpa using hx)]
  simp [rowG_bit, hy]
theorem past_bits (G : List Nat) {s0 s i : Nat} {tail : List Nat} (hs0 : s0 < 17592186044416) (pre : List Nat) (hms : listN s0 = pre ++ i :: tail) (hs : ∀ x, bitS s x ↔ (bitS s0 x ∧ x ∈ i :: tail)) :
    ∀ x, bitS (andn (andn s (2 ^ i)) (G.getD i 0)) x ↔ GT.past (adjB G) (bitS s0) i x := fun x => by
  have hsort : (listN s0).Pairwise (· < ·) := (List.pairwise_lt_range).filter _
  rw [hms] at hsort
  have hp := List.pairwise_append.1 hsort
  have htl := (List.pairwise_cons.1 hp.2.1).1
  have hx : x ∈ i :: tail ∧ x ≠ i ↔ x ∈ tail := by
    rw [List.mem_cons]
    constructor
    · rintro ⟨h | h, hn⟩
      · exact absurd h hn
      · exact h
    · intro h
      have := htl x h
      exact ⟨.inr h, by omega⟩
  have hgt : bitS s0 x → (x ∈ tail ↔ i < x) := fun hb => by
    have hm := (mem_listN hs0).2 hb
    rw [hms] at hm
    constructor
    · exact htl x
    · intro hlt
      rcases List.mem_append.1 hm with h | h
      · have := hp.2.2 x h i List.mem_cons_self
        omega
      · rcases List.mem_cons.1 h with h | h
        · omega
        · exact h
  have e : bitS (andn (andn s (2 ^ i)) (G.getD i 0)) x ↔ (bitS s x ∧ x ≠ i ∧ adjB G i x = false) := by
    show (andn (andn s (2 ^ i)) (G.getD i 0)).testBit x = true ↔ (s.testBit x = true ∧ x ≠ i ∧ (G.getD i 0).testBit x = false)
    rw [testBit_andn, testBit_andn, pow_bit]
    by_cases h : i = x
    · subst h; simp
    · have h' : ¬ x = i := fun e => h e.symm
      cases s.testBit x <;> cases (G.getD i 0).testBit x <;> simp [h, h']
  rw [e, hs x]
  constructor
  · rintro ⟨⟨h1, h2⟩, h3, h4⟩
    exact ⟨h1, (hgt h1).1 (hx.1 ⟨h2, h3⟩), h4⟩
  · rintro ⟨h1, h2, h3⟩
    have h4 := hx.2 ((hgt h1).2 h2)
    exact ⟨⟨h1, h4.1⟩, h4.2, h3⟩
theorem ap_l3 (G : List Nat) (hG : GOk G) (fs : List Nat) (hfs : fs.length = G.length) (s0 : Nat) (hs0 : s0 < 17592186044416) (hsl : ∀ x, s0.testBit x = true → x < G.length) (m K : Nat) (hm : m ≤ 62) (hK : 13000 ≤ K)
    (hnext : ∀ (s' : Nat) (acc : List Int) (k' : Nat), s' < 17592186044416 → (∀ x, s'.testBit x = true → x < G.length) → GT.Al (adjB G) (bitS s') m → K ≤ k' → acc.length ≤ 63 - m → ∃ L, GT.First (adjB G) m (bitS s') L ∧ gate_ApartT.l2 k' (nI fs) (nI G) (s' : Int) acc (m : Int) = some (acc ++ nI (L.map fun i => fs.getD i 0), 0)) :
    ∀ (tail pre : List Nat) (s : Nat) (acc : List Int) (k : Nat), listN s0 = pre ++ tail → s < 17592186044416 → (∀ x, bitS s x ↔ (bitS s0 x ∧ x ∈ tail)) → (∀ b, b ∈ pre → ¬ GT.Al (adjB G) (GT.past (adjB G) (bitS s0) b) m) → (∃ c, c ∈ tail ∧ GT.Al (adjB G) (GT.past (adjB G) (bitS s0) c) m) → acc.length ≤ 63 - (m + 1) → K + tail.length + 1 ≤ k →
    ∃ L, GT.First (adjB G) (m + 1) (bitS s0) L ∧ gate_ApartT.l3 k (nI fs) (nI G) (s : Int) acc ((m + 1 : Nat) : Int) (nI (listN s0)) (((listN s0).length : Nat) : Int) ((pre.length : Nat) : Int) = some (acc ++ nI (L.map fun i => fs.getD i 0), 0) := by
  have hlen62 : (listN s0).length ≤ 62 := szB_le
  have hgl : (nI G).length = G.length := by simp [nI]
  have hfl : (nI fs).length = fs.length := by simp [nI]
  have hnl : (nI (listN s0)).length = (listN s0).length := by simp [nI]
  intro tail
  induction tail with
  | nil =>
    intro pre s acc k hms hs hb hno hex ha hk
    obtain ⟨c, hc, _⟩ := hex
    simp at hc
  | cons i tail ih =>
    intro pre s acc k hms hs hb hno hex ha hk
    obtain ⟨k, rfl⟩ : ∃ q, k = q + 1 := ⟨k - 1, by rw [List.length_cons] at hk; clear hb hex hno; omega⟩
    have hpl : pre.length < (listN s0).length := by rw [hms, List.length_append, List.length_cons]; omega
    have hget : (listN s0)[pre.length] = i := by
      have : (listN s0)[pre.length]? = some i := by rw [hms, List.getElem?_append_right (Nat.le_refl _), Nat.sub_self]; rfl
      rw [List.getElem?_eq_getElem hpl] at this
      injection this
    have him : i ∈ listN s0 := hget ▸ List.getElem_mem hpl
    have hib := (mem_listN hs0).1 him
    have hil := hsl i hib
    have hi44 := bit44 hs0 hib
    have hp := pow44lt hi44
    have hgi := hG.lt i
    have ha1 := andn_le44 (y := 2 ^ i) hs
    have ha2 : andn (andn s (2 ^ i)) (G.getD i 0) < 17592186044416 := andn_le44 ha1
    have hpast := past_bits G hs0 pre hms hb
    have hsub2 : ∀ x, (andn (andn s (2 ^ i)) (G.getD i 0)).testBit x = true → x < G.length := fun x hx => hsl x ((hpast x).1 hx).1
    obtain ⟨q, eq, aq, lq⟩ := gmost_f G hG 62 _ k szB_le ha2 hsub2 (by rw [List.length_cons] at hk; clear hb hex hno; omega)
    have aq' := aq.congr hpast
    have hrd : rd (nI (listN s0)) ((pre.length : Nat) : Int) = (i : Int) := by rw [nI_rdr hpl, hget]
    have hwm : ∀ _ : Unit, wrap64 (((m + 1 : Nat) : Int) - 1) = ((m : Nat) : Int) := fun _ => by rw [w64 (by omega) (by omega)]; omega
    have c1 : ((pre.length : Nat) : Int) < (((listN s0).length : Nat) : Int) := by omega
    have c2 : (0 : Int) ≤ ((pre.length : Nat) : Int) := by omega
    have c3 : ((pre.length : Nat) : Int) < ((nI (listN s0)).length : Int) := by omega
    have c4 : (0 : Int) ≤ (i : Int) := by omega
    have c5 : (i : Int) < ((nI G).length : Int) := by omega
    have c6 : (i : Int) < ((nI fs).length : Int) := by omega
    have c7 : acc.length < 17592186044416 := by omega
    rw [gate_ApartT.l3, if_pos c1, if_pos c2, if_pos c3, hrd, if_pos c4, if_pos c5, shlu1 i (by omega), nI_getD hil, andnu s (2 ^ i) (by omega) (by omega), andnu _ (G.getD i 0) (by omega) (by omega), eq, Option.bind_some, hwm ()]
    have hw : ∀ _ : Unit, wrap64 (((pre.length : Nat) : Int) + 1) = (((pre ++ [i]).length : Nat) : Int) := fun _ => by rw [List.length_append, List.length_singleton, w64 (by omega) (by omega)]; omega
    by_cases hqm : q = m
    · subst hqm
      have hrf : rd (nI fs) (i : Int) = ((fs.getD i 0 : Nat) : Int) := nI_getD (by omega)
      rw [if_pos rfl, if_pos c6, if_pos c7, hrf]
      obtain ⟨L, f1, f2⟩ := hnext _ (acc ++ [((fs.getD i 0 : Nat) : Int)]) k ha2 hsub2 aq (by rw [List.length_cons] at hk; clear hb hex hno; omega) (by rw [List.length_append, List.length_singleton]; omega)
      refine ⟨i :: L, ⟨i, L, rfl, hib, aq', fun b hb1 hb2 => ?_, f1.congr hpast⟩, ?_⟩
      · refine hno b ?_
        have hbm := (mem_listN hs0).2 hb2
        rw [hms] at hbm
        rcases List.mem_append.1 hbm with h | h
        · exact h
        · exfalso
          have hsort : (listN s0).Pairwise (· < ·) := (List.pairwise_lt_range).filter _
          rw [hms] at hsort
          have htl := (List.pairwise_cons.1 (List.pairwise_append.1 hsort).2.1).1
          rcases List.mem_cons.1 h with h | h
          · omega
          · have := htl b h; omega
      · rw [f2, List.append_assoc]
        simp [nI]
    · rw [if_neg (by omega), hw ()]
      refine ih (pre ++ [i]) (andn s (2 ^ i)) acc k (by rw [hms, List.append_assoc]; rfl) ha1 (fun x => ?_) (fun b hb2 => ?_) ?_ ha (by rw [List.length_cons] at hk; clear hb hex hno; omega)
      · have hsort : (listN s0).Pairwise (· < ·) := (List.pairwise_lt_range).filter _
        rw [hms] at hsort
        have htl := (List.pairwise_cons.1 (List.pairwise_append.1 hsort).2.1).1
        rw [bits_less x, hb x, List.mem_cons]
        constructor
        · rintro ⟨⟨h1, h2 | h2⟩, h3⟩
          · exact absurd h2 h3
          · exact ⟨h1, h2⟩
        · rintro ⟨h1, h2⟩
          have := htl x h2
          exact ⟨⟨h1, .inr h2⟩, by omega⟩
      · rcases List.mem_append.1 hb2 with h | h
        · exact hno b h
        · have : b = i := by simpa using h
          subst this
          exact fun h2 => hqm (aq'.unique h2)
      · obtain ⟨c, hc, hc2⟩ := hex
        rcases List.mem_cons.1 hc with rfl | hc
        · exact absurd (aq'.unique hc2) hqm
        · exact ⟨c, hc, hc2⟩
theorem ap_l2 (G : List Nat) (hG : GOk G) (fs : List Nat) (hfs : fs.length = G.length) : ∀ (m s : Nat) (acc : List Int) (k : Nat), m ≤ 62 → s < 17592186044416 → (∀ x, s.testBit x = true → x < G.length) → GT.Al (adjB G) (bitS s) m → 13000 + 70 * m + 1 ≤ k → acc.length ≤ 63 - m →
    ∃ L, GT.First (adjB G) m (bitS s) L ∧ gate_ApartT.l2 k (nI fs) (nI G) (s : Int) acc (m : Int) = some (acc ++ nI (L.map fun i => fs.getD i 0), 0) := by
  intro m
  induction m with
  | zero =>
    intro s acc k hm hs hsl hA hk ha
    obtain ⟨k, rfl⟩ : ∃ q, k = q + 1 := ⟨k - 1, by omega⟩
    refine ⟨[], rfl, ?_⟩
    rw [gate_ApartT.l2, if_neg (by decide)]
    simp [nI]
  | succ m ih =>
    intro s acc k hm hs hsl hA hk ha
    obtain ⟨k, rfl⟩ : ∃ q, k = q + 1 := ⟨k - 1, by omega⟩
    have hnl : (nI (listN s)).length = (listN s).length := by simp [nI]
    have hlen62 : (listN s).length ≤ 62 := szB_le
    obtain ⟨c, hc1, hc2⟩ := hA.first hG.sym
    rw [gate_ApartT.l2, if_pos (by omega), gmem_f s hs k (by omega), Option.bind_some, hnl]
    exact ap_l3 G hG fs hfs s hs hsl m (13000 + 70 * m + 1) (by omega) (by omega) (fun s' acc' k' h1 h2 h3 h4 h5 => ih s' acc' k' (by omega) h1 h2 h3 h4 h5) (listN s) [] s acc k rfl hs (fun x => by
      constructor
      · exact fun h => ⟨h, (mem_listN hs).2 h⟩
      · exact fun h => h.1) (fun b hb => by simp at hb) ⟨c, (mem_listN hs).2 hc1, hc2⟩ (by omega) (by omega)
theorem gate_Apart_ok (N : Nat) (ls : List S40) (os : List Int) (hok : okC (N : Int) ls os = true) : ∃ m L, GT.First (adjB (rowsG (shownW (toC N ls os)))) m (fun x => x < (shownW (toC N ls os)).length) L ∧ GT.Al (adjB (rowsG (shownW (toC N ls os)))) (fun x => x < (shownW (toC N ls os)).length) m ∧
    gate_Apart.f (N : Int) ls os = some (nI (L.map fun i => (shownF (toC N ls os)).getD i 0), 0) := by
  have hs := okC_small hok
  have hl1 : (shownF (toC N ls os)).length ≤ 44 := whereN_len N ls os hok _
  have hl2 : (shownW (toC N ls os)).length = (shownF (toC N ls os)).length := List.length_map ..
  have h64 : ∀ x, x ∈ shownW (toC N ls os) → x < 18446744073709551616 := fun x hx => by
    unfold shownW at hx
    obtain ⟨f, _, rfl⟩ := List.mem_map.1 hx
    exact rshows_lt64 N ls os hok f
  unfold gate_Apart.f
  rw [if_pos hok, Int.toNat_natCast]
  generalize shownW (toC N ls os) = W at *
  generalize shownF (toC N ls os) = fs at *
  have hW : W.length ≤ 44 := by omega
  have hnl : (nI W).length = W.length := by simp [nI]
  have hG := GOk_rowsG hW
  have hgr : (rowsG W).length = W.length := by simp [rowsG]
  have hp := pow44 (i := W.length) (by omega)
  have hone : 2 ^ W.length - 1 < 17592186044416 := by
    have : 0 < 2 ^ W.length := Nat.pos_of_ne_zero (by simp)
    omega
  have hbits : ∀ x, bitS (2 ^ W.length - 1) x ↔ x < W.length := fun x => by
    unfold bitS
    rw [Nat.testBit_two_pow_sub_one, decide_eq_true_iff]
  obtain ⟨k0, hk0⟩ : ∃ k0, 100000 = k0 + 47 * W.length + 1 := ⟨100000 - 47 * W.length - 1, by omega⟩
  obtain ⟨k1, hk1⟩ : ∃ k1, k0 + 1 + (47 - W.length - 2) * W.length = k1 + 1 := ⟨k0 + (47 - W.length - 2) * W.length, by omega⟩
  have hk97 : 97930 ≤ k1 := by
    have : (47 - W.length - 2) * W.length ≥ 0 := Nat.zero_le _
    omega
  obtain ⟨q, eq, aq, lq⟩ := gmost_f (rowsG W) hG 62 (2 ^ W.length - 1) k1 szB_le hone (fun x hx => by rw [hgr]; exact (hbits x).1 hx) (by omega)
  obtain ⟨L, f1, f2⟩ := ap_l2 (rowsG W) hG fs (by omega) q (2 ^ W.length - 1) [] k1 (by omega) hone (fun x hx => by rw [hgr]; exact (hbits x).1 hx) aq (by omega) (by simp)
  refine ⟨q, L, f1.congr hbits, aq.congr hbits, ?_⟩
  unfold gate_ApartT.f
  rw [hnl, if_pos (by omega), Int.toNat_natCast, if_pos (by omega), ← gx_start W]
  have e := ap_l0 W hW h64 (nI fs) W.length 0 k0 (Nat.sub_zero _) (Nat.zero_le _)
  rw [← hk0, show ((0 : Nat) : Int) = 0 from rfl] at e
  rw [e]
  rw [hk1, gate_ApartT.l0, if_neg (by omega), hnl]
  have hsh : IntKind.u64.wrap (shl .u64 1 ((W.length : Nat) : Int) - 1) = ((2 ^ W.length - 1 : Nat) : Int) := by
    have hpos : 0 < 2 ^ W.length := Nat.pos_of_ne_zero (by simp)
    rw [shlu1 _ (by omega)]
    have e3 : ((2 ^ W.length : Nat) : Int) - 1 = ((2 ^ W.length - 1 : Nat) : Int) := by generalize 2 ^ W.length = z at *; omega
    rw [e3]
    exact u64w0 (by omega)
  rw [hsh]
  rw [eq, Option.bind_some, f2, List.nil_append]
end Go.Proofs.Ytelfalicickelaa.P
