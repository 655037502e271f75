/- What the program's Cascade and the reference's Cascade come to: the cascade of the number. -/
import Derived.Test.YtgchhheajngbfaaPf15
import Derived.Test.YtgchhheajngbfaaPf16
import Derived.Test.YtgchhheajngbfaaKit
import Derived.Test.YtgchhheajngbfaaBin
set_option linter.unusedSimpArgs false
set_option linter.unusedVariables false
namespace Go.Proofs.Ytgchhheajngbfaa.P
open Go.RowKit Go.Proofs.YtgchhheajngbfaaW.PrintWords Go.Proofs.YtgchhheajngbfaaW.PrintMore Go.Proofs.Ytgchhheajngbfaa.Kit
attribute [local irreducible] binom

theorem choose_l0 (n m : Nat) (hb : ∀ i, i < m → binom n i * n ≤ 4611686018427387904) (hn : n ≤ 4611686018427387904) (hm : m ≤ n) : ∀ d i, i + d = m →
    Ev (fun k => code_choose.l0 k (n : Int) (binom n i : Int) (m : Int) (i : Int)) (binom n m : Int) := by
  intro d
  induction d with
  | zero =>
    intro i h
    obtain rfl : i = m := by omega
    refine Ev.step (f := fun _ => some (binom n i : Int)) (fun k => ?_) (Ev.now _)
    simp only [code_choose.l0]
    rw [if_neg (by omega)]
  | succ d ih =>
    intro i h
    have e1 : wrap64 ((i : Int) + 1) = ((i + 1 : Nat) : Int) := by rw [w64 (by omega) (by omega)]; omega
    have e2 : wrap64 ((n : Int) - (i : Int)) = ((n - i : Nat) : Int) := by rw [w64 (by omega) (by omega)]; omega
    have q1 : (i : Int) < (m : Int) := by omega
    have q2 : ¬ (((i + 1 : Nat) : Int) = 0) := by omega
    have q0 : i < m := by omega
    have h1 := hb i q0
    have h2 : binom n i * (n - i) ≤ binom n i * n := Nat.mul_le_mul_left _ (Nat.sub_le n i)
    have h3 := binom_mul n i
    refine Ev.step (f := fun k => code_choose.l0 k (n : Int) (binom n (i + 1) : Int) (m : Int) ((i + 1 : Nat) : Int)) (fun k => ?_) (ih (i + 1) (by omega))
    simp only [code_choose.l0]
    have e3 : wrap64 ((binom n i : Int) * ((n - i : Nat) : Int)) = ((binom n i * (n - i) : Nat) : Int) := by rw [← Int.natCast_mul]; exact w64n (binom n i * (n - i)) (Nat.le_trans h2 (Nat.le_trans h1 (by decide)))
    have e4 : binom n i * (n - i) / (i + 1) = binom n (i + 1) := by rw [← h3]; exact Nat.mul_div_cancel _ (Nat.succ_pos i)
    have e5 : binom n (i + 1) ≤ binom n i * (n - i) := by rw [← h3]; exact Nat.le_mul_of_pos_right _ (Nat.succ_pos i)
    have e6 : wrap64 (binom n (i + 1) : Int) = (binom n (i + 1) : Int) := w64n (binom n (i + 1)) (Nat.le_trans e5 (Nat.le_trans h2 (Nat.le_trans h1 (by decide))))
    rw [if_pos q1, e1, if_neg q2, e2, e3, tdivn, e4, e6]
theorem choose_ev (n m : Nat) (hb : ∀ i, i < m → binom n i * n ≤ 4611686018427387904) (hn : n ≤ 4611686018427387904) : Ev (fun k => code_choose.f k (n : Int) (m : Int)) (binom n m : Int) := by
  rcases Nat.lt_or_ge n m with h | h
  · refine Ev.at 1 (fun k hk => ?_)
    obtain ⟨k, rfl⟩ : ∃ j, k = j + 1 := ⟨k - 1, by omega⟩
    simp only [code_choose.f]
    rw [if_neg (by omega)]
    have : decide ((m : Int) > (n : Int)) = true := decide_eq_true (by omega)
    rw [this]
    simp only [code_choose.j0]
    rw [binom_gt n m h]
    rfl
  · have hz : binom n 0 = 1 := binom_zero n
    have h0 := choose_l0 n m hb hn h m 0 (by omega)
    rw [hz] at h0
    refine Ev.congr (f := fun k => code_choose.j0 k (n : Int) (m : Int) false) (fun k => ?_) ?_
    · simp only [code_choose.f]
      rw [if_neg (by omega)]
      have : decide ((m : Int) > (n : Int)) = false := decide_eq_false (by omega)
      rw [this]
    · refine Ev.step (f := fun k => code_choose.l0 k (n : Int) 1 (m : Int) 0) (fun k => ?_) h0
      simp only [code_choose.j0]
      rfl

theorem mn_nat (a b : Nat) : mn (a : Int) (b : Int) = ((min a b : Nat) : Int) := by
  unfold mn
  split <;> omega
theorem rchoose_l0 (n m : Nat) (hb : ∀ i, i < m → binom n i * n ≤ 4611686018427387904) (hn : n ≤ 4611686018427387904) (hm : m ≤ n) : ∀ d i, i + d = min m (n - m) →
    Ev (fun k => neonwrightref03_Choose.l0 k (n : Int) (m : Int) (binom n i : Int) ((i + 1 : Nat) : Int)) (binom n (min m (n - m)) : Int) := by
  intro d
  induction d with
  | zero =>
    intro i h
    refine Ev.step (f := fun _ => some (binom n (min m (n - m)) : Int)) (fun k => ?_) (Ev.now _)
    simp only [neonwrightref03_Choose.l0]
    have e2 : wrap64 ((n : Int) - (m : Int)) = ((n - m : Nat) : Int) := by rw [w64 (by omega) (by omega)]; omega
    rw [e2, mn_nat, ← h, if_neg (by omega)]
    rfl
  | succ d ih =>
    intro i h
    have e0 : wrap64 ((n : Int) - (m : Int)) = ((n - m : Nat) : Int) := by rw [w64 (by omega) (by omega)]; omega
    have e1 : wrap64 (((i + 1 : Nat) : Int) + 1) = ((i + 1 + 1 : Nat) : Int) := by rw [w64 (by omega) (by omega)]; omega
    have e2 : wrap64 ((wrap64 ((n : Int) - ((i + 1 : Nat) : Int))) + 1) = ((n - i : Nat) : Int) := by rw [w64 (x := (n : Int) - ((i + 1 : Nat) : Int)) (by omega) (by omega), w64 (by omega) (by omega)]; omega
    have q1 : ((i + 1 : Nat) : Int) ≤ ((min m (n - m) : Nat) : Int) := by omega
    have q2 : ¬ (((i + 1 : Nat) : Int) = 0) := by omega
    have q0 : i < m := by omega
    have h1 := hb i q0
    have h2 : binom n i * (n - i) ≤ binom n i * n := Nat.mul_le_mul_left _ (Nat.sub_le n i)
    have h3 := binom_mul n i
    refine Ev.step (f := fun k => neonwrightref03_Choose.l0 k (n : Int) (m : Int) (binom n (i + 1) : Int) ((i + 1 + 1 : Nat) : Int)) (fun k => ?_) (ih (i + 1) (by omega))
    simp only [neonwrightref03_Choose.l0]
    have e3 : wrap64 ((binom n i : Int) * ((n - i : Nat) : Int)) = ((binom n i * (n - i) : Nat) : Int) := by rw [← Int.natCast_mul]; exact w64n (binom n i * (n - i)) (Nat.le_trans h2 (Nat.le_trans h1 (by decide)))
    have e4 : binom n i * (n - i) / (i + 1) = binom n (i + 1) := by rw [← h3]; exact Nat.mul_div_cancel _ (Nat.succ_pos i)
    have e5 : binom n (i + 1) ≤ binom n i * (n - i) := by rw [← h3]; exact Nat.le_mul_of_pos_right _ (Nat.succ_pos i)
    have e6 : wrap64 (binom n (i + 1) : Int) = (binom n (i + 1) : Int) := w64n (binom n (i + 1)) (Nat.le_trans e5 (Nat.le_trans h2 (Nat.le_trans h1 (by decide))))
    rw [e0, mn_nat, if_pos q1, if_neg q2, e2, e3, tdivn, e4, e6, e1]
theorem rchoose_ev (n m : Nat) (hb : ∀ i, i < m → binom n i * n ≤ 4611686018427387904) (hn : n ≤ 4611686018427387904) : Ev (fun k => neonwrightref03_Choose.f k (n : Int) (m : Int)) (binom n m : Int) := by
  rcases Nat.lt_or_ge n m with h | h
  · refine Ev.at 1 (fun k hk => ?_)
    obtain ⟨k, rfl⟩ : ∃ j, k = j + 1 := ⟨k - 1, by omega⟩
    simp only [neonwrightref03_Choose.f]
    rw [if_neg (by omega)]
    have : decide ((m : Int) > (n : Int)) = true := decide_eq_true (by omega)
    rw [this]
    simp only [neonwrightref03_Choose.j0]
    rw [binom_gt n m h]
    rfl
  · have hz : binom n 0 = 1 := binom_zero n
    have h0 := rchoose_l0 n m hb hn h (min m (n - m)) 0 (by omega)
    have he : binom n (min m (n - m)) = binom n m := by
      rcases Nat.le_total m (n - m) with h1 | h1
      · rw [Nat.min_eq_left h1]
      · rw [Nat.min_eq_right h1, ← binom_symm n m h]
    rw [hz, he] at h0
    refine Ev.congr (f := fun k => neonwrightref03_Choose.j0 k (n : Int) (m : Int) false) (fun k => ?_) ?_
    · simp only [neonwrightref03_Choose.f]
      rw [if_neg (by omega)]
      have : decide ((m : Int) > (n : Int)) = false := decide_eq_false (by omega)
      rw [this]
    · refine Ev.step (f := fun k => neonwrightref03_Choose.l0 k (n : Int) (m : Int) 1 1) (fun k => ?_) h0
      simp only [neonwrightref03_Choose.j0]
      rfl

/-- What stands on the way of a cascade fits. -/
theorem way (a i s : Nat) (hi : 1 ≤ i) (hi2 : i ≤ 12) (ha : i ≤ a) (hs : s ≤ 100000) (h : binom a i ≤ s) : (∀ j, j < i → binom (a + 1) j * (a + 1) ≤ 4611686018427387904) ∧ a ≤ 100012 ∧ binom (a + 1) i ≤ 2600000 := by
  have h1 := binom_ge i hi a ha
  have h2 : binom (a + 1) i ≤ 2600000 := by
    obtain ⟨j, rfl⟩ : ∃ j, i = j + 1 := ⟨i - 1, by omega⟩
    have h3 := binom_mul a j
    have h4 : binom a j * 1 ≤ binom a j * (a - j) := Nat.mul_le_mul_left _ (by omega)
    have h5 : binom a (j + 1) * (j + 1) ≤ 100000 * 12 := Nat.mul_le_mul (by omega) (by omega)
    rw [binom_succ]
    omega
  exact ⟨fun j hj => binom_way (a + 1) i j hi2 (by omega) (by omega) (by omega), by omega, h2⟩
theorem way0 (a i s : Nat) (hi : 1 ≤ i) (hi2 : i ≤ 12) (ha : i ≤ a) (hs : s ≤ 100000) (h : binom a i ≤ s) (m : Nat) (hm : m ≤ i) : ∀ j, j < m → binom a j * a ≤ 4611686018427387904 :=
  fun j hj => binom_way a i j hi2 (by omega) (by have := binom_ge i hi a ha; omega) (by omega)

def ints (l : List Nat) : List Int := l.map (fun (n : Nat) => (n : Int))
theorem ints_append (a b : List Nat) : ints (a ++ b) = ints a ++ ints b := by simp [ints]
theorem ints_length (a : List Nat) : (ints a).length = a.length := by simp [ints]

theorem casc_l1 (i s : Nat) (hi : 1 ≤ i) (hi2 : i ≤ 12) (hs : s ≤ 100000) (out : List Nat) (sh : Nat) (ho : out.length ≤ 12) (hsh : sh ≤ 40000000) (R : List Int × Int × Int)
    (hR : Ev (fun k => code_Cascade.l0 k ((s - binom (top i s) i : Nat) : Int) (ints (out ++ [top i s])) ((sh + binom (top i s) (i - 1) : Nat) : Int) ((i : Int) - 1)) R) :
    ∀ d a, i ≤ a → s + i + 1 ≤ d + a → binom a i ≤ s → Ev (fun k => code_Cascade.l1 k (s : Int) (ints out) (sh : Int) (i : Int) (a : Int)) R := by
  intro d
  induction d with
  | zero =>
    intro a h1 h2 h3
    have := binom_ge i hi a h1
    omega
  | succ d ih =>
    intro a h1 h2 h3
    obtain ⟨b1, b2, b3⟩ := way a i s hi hi2 h1 hs h3
    have e1 : wrap64 ((a : Int) + 1) = ((a + 1 : Nat) : Int) := by rw [w64 (by omega) (by omega)]; omega
    have e2 : wrap64 ((i : Int) - 1) = ((i - 1 : Nat) : Int) := by rw [w64 (by omega) (by omega)]; omega
    refine Ev.step (f := fun k => (code_choose.f k ((a + 1 : Nat) : Int) (i : Int)).bind fun t101 => (if t101 ≤ (s : Int) then (code_Cascade.l1 k (s : Int) (ints out) (sh : Int) (i : Int) ((a + 1 : Nat) : Int)) else (if (ints out).length < 17592186044416 then ((code_choose.f k (a : Int) (i : Int)).bind fun t105 => ((code_choose.f k (a : Int) ((i - 1 : Nat) : Int)).bind fun t106 => (code_Cascade.l0 k (wrap64 ((s : Int) - t105)) (ints out ++ [(a : Int)]) (wrap64 ((sh : Int) + t106)) ((i - 1 : Nat) : Int)))) else (none)))) (fun k => ?_) ?_
    · simp only [code_Cascade.l1]
      rw [e1, e2]
    · refine Ev.bnd (choose_ev (a + 1) i b1 (by omega)) ?_
      by_cases h4 : binom (a + 1) i ≤ s
      · exact Ev.pos (by omega) (ih (a + 1) (by omega) (by omega) h4)
      · have ht : a = top i s := by
          have hs1 : 1 ≤ s := by have := binom_pos a i h1; omega
          exact top_uniq hi hs1 h3 (by omega)
        refine Ev.neg (by omega) (Ev.pos (by rw [ints_length]; omega) ?_)
        refine Ev.bnd (choose_ev a i (way0 a i s hi hi2 h1 hs h3 i (Nat.le_refl _)) (by omega)) (Ev.bnd (choose_ev a (i - 1) (way0 a i s hi hi2 h1 hs h3 (i - 1) (by omega)) (by omega)) ?_)
        have h5 : binom a (i - 1) ≤ 2600000 := by
          have : binom (a + 1) i = binom a (i - 1) + binom a i := by
            obtain ⟨j, rfl⟩ : ∃ j, i = j + 1 := ⟨i - 1, by omega⟩
            exact binom_succ _ _
          omega
        have e3 : wrap64 ((s : Int) - (binom a i : Int)) = ((s - binom a i : Nat) : Int) := by rw [w64 (by omega) (by omega)]; omega
        have e4 : wrap64 ((sh : Int) + (binom a (i - 1) : Int)) = ((sh + binom a (i - 1) : Nat) : Int) := by rw [w64 (by omega) (by omega)]; omega
        have e5 : ints out ++ [(a : Int)] = ints (out ++ [a]) := by rw [ints_append]; rfl
        have e6 : ((i - 1 : Nat) : Int) = (i : Int) - 1 := by omega
        show Ev (fun n => code_Cascade.l0 n (wrap64 ((s : Int) - (binom a i : Int))) (ints out ++ [(a : Int)]) (wrap64 ((sh : Int) + (binom a (i - 1) : Int))) ((i - 1 : Nat) : Int)) R
        rw [e3, e4, e5, e6, ht]
        exact hR
theorem casc_l0 : ∀ i s (out : List Nat) (sh : Nat), i ≤ 12 → s ≤ 100000 → out.length + i ≤ 12 → sh + 2600000 * i ≤ 40000000 → s < binom (s + i + 1) i ∨ 1 ≤ i → (i = 0 → s = 0) →
    Ev (fun k => code_Cascade.l0 k (s : Int) (ints out) (sh : Int) (i : Int)) (ints (out ++ (casc i s).1), ((sh + (casc i s).2 : Nat) : Int), 0) := by
  intro i
  induction i with
  | zero =>
    intro s out sh _ _ _ _ _ h0
    obtain rfl := h0 rfl
    refine Ev.step (f := fun _ => some (ints (out ++ (casc 0 0).1), ((sh + (casc 0 0).2 : Nat) : Int), 0)) (fun k => ?_) (Ev.now _)
    simp only [code_Cascade.l0]
    rw [if_neg (by omega)]
    simp [casc]
  | succ i ih =>
    intro s out sh hi hs ho hsh _ _
    rcases Nat.eq_zero_or_pos s with rfl | hp
    · refine Ev.step (f := fun _ => some (ints (out ++ (casc (i + 1) 0).1), ((sh + (casc (i + 1) 0).2 : Nat) : Int), 0)) (fun k => ?_) (Ev.now _)
      simp only [code_Cascade.l0]
      rw [if_neg (by omega)]
      simp [casc]
    · obtain ⟨t1, t2, t3⟩ := top_spec (i + 1) s (by omega) hp
      obtain ⟨b1, b2, b3⟩ := way (top (i + 1) s) (i + 1) s (by omega) hi t1 hs t2
      have hsucc : binom (top (i + 1) s + 1) (i + 1) = binom (top (i + 1) s) i + binom (top (i + 1) s) (i + 1) := binom_succ _ _
      have hz : i = 0 → s - binom (top (i + 1) s) (i + 1) = 0 := by
        intro e
        subst e
        simp only [Nat.zero_add, binom_one] at t2 t3 ⊢
        omega
      have hR := ih (s - binom (top (i + 1) s) (i + 1)) (out ++ [top (i + 1) s]) (sh + binom (top (i + 1) s) i) (by omega) (by omega) (by simp; omega) (by omega) (by
        rcases Nat.eq_zero_or_pos i with h | h
        · left
          have := hz h
          subst h
          rw [this, binom_zero]
          omega
        · right; omega) hz
      have he : (casc (i + 1) s) = (top (i + 1) s :: (casc i (s - binom (top (i + 1) s) (i + 1))).1, binom (top (i + 1) s) i + (casc i (s - binom (top (i + 1) s) (i + 1))).2) := by
        rw [casc, if_neg (by omega)]
      rw [he]
      refine Ev.step (f := fun k => code_Cascade.l1 k (s : Int) (ints out) (sh : Int) ((i + 1 : Nat) : Int) ((i + 1 : Nat) : Int)) (fun k => ?_) ?_
      · simp only [code_Cascade.l0]
        rw [if_pos (by omega)]
      · refine casc_l1 (i + 1) s (by omega) hi hs out sh (by omega) (by omega) _ ?_ (s + 2) (i + 1) (Nat.le_refl _) (by omega) (by rw [binom_self]; exact hp)
        have e1 : (((i + 1 : Nat) : Int) - 1) = (i : Int) := by omega
        simp only [Nat.add_sub_cancel] at hR ⊢
        rw [e1]
        simp only [List.append_assoc, List.singleton_append, Nat.add_assoc] at hR ⊢
        exact hR
/-- Where the arguments are allowed. -/
theorem casc_ev (s k : Nat) (h1 : 1 ≤ s) (h2 : s ≤ 100000) (h3 : 1 ≤ k) (h4 : k ≤ 12) : Ev (fun n => code_Cascade.f n (s : Int) (k : Int)) (ints (casc k s).1, ((casc k s).2 : Int), 0) := by
  have h := casc_l0 k s [] 0 h4 h2 (by simp; omega) (by omega) (Or.inr h3) (by omega)
  refine Ev.congr (f := fun n => code_Cascade.j0 n (s : Int) (k : Int) false) (fun n => ?_) ?_
  · simp only [code_Cascade.f]
    rw [if_neg (by omega), if_neg (by omega), if_neg (by omega)]
    have : decide ((k : Int) > 12) = false := decide_eq_false (by omega)
    rw [this]
  · refine Ev.step (f := fun n => code_Cascade.l0 n (s : Int) ([] : List Int) 0 (k : Int)) (fun n => ?_) ?_
    · simp only [code_Cascade.j0]
      rfl
    · have e : ints [] = ([] : List Int) := rfl
      rw [← e]
      simpa using h
/-- Where they are not. -/
theorem casc_no (a b : Int) (h : a < 1 ∨ 100000 < a ∨ b < 1 ∨ 12 < b) : Ev (fun n => code_Cascade.f n a b) (([] : List Int), 0, 2) := by
  refine Ev.at 1 (fun k hk => ?_)
  obtain ⟨k, rfl⟩ : ∃ j, k = j + 1 := ⟨k - 1, by omega⟩
  simp only [code_Cascade.f, code_Cascade.j0]
  by_cases h1 : a < 1
  · rw [if_pos h1]; rfl
  · by_cases h2 : a > 100000
    · rw [if_neg h1, if_pos h2]; rfl
    · by_cases h3 : b < 1
      · rw [if_neg h1, if_neg h2, if_pos h3]; rfl
      · have : decide (b > 12) = true := decide_eq_true (by omega)
        rw [if_neg h1, if_neg h2, if_neg h3, this]; rfl

/-! The reference's. -/
theorem rcasc_l1 (i s : Nat) (hi : 1 ≤ i) (hi2 : i ≤ 12) (hs : s ≤ 100000) (out : List Nat) (sh : Nat) (ho : out.length ≤ 12) (hsh : sh ≤ 40000000) (R : List Int × Int × Int)
    (hR : Ev (fun k => neonwrightref03_Cascade.l0 k ((s - binom (top i s) i : Nat) : Int) (ints (out ++ [top i s])) ((sh + binom (top i s) (i - 1) : Nat) : Int) ((i : Int) - 1)) R) :
    ∀ d a, i ≤ a → s + i + 1 ≤ d + a → binom a i ≤ s → Ev (fun k => neonwrightref03_Cascade.l1 k (s : Int) (ints out) (sh : Int) (i : Int) (a : Int)) R := by
  intro d
  induction d with
  | zero =>
    intro a h1 h2 h3
    have := binom_ge i hi a h1
    omega
  | succ d ih =>
    intro a h1 h2 h3
    obtain ⟨b1, b2, b3⟩ := way a i s hi hi2 h1 hs h3
    have e1 : wrap64 ((a : Int) + 1) = ((a + 1 : Nat) : Int) := by rw [w64 (by omega) (by omega)]; omega
    have e2 : wrap64 ((i : Int) - 1) = ((i - 1 : Nat) : Int) := by rw [w64 (by omega) (by omega)]; omega
    refine Ev.step (f := fun k => (neonwrightref03_Choose.f k ((a + 1 : Nat) : Int) (i : Int)).bind fun t101 => (if t101 ≤ (s : Int) then (neonwrightref03_Cascade.l1 k (s : Int) (ints out) (sh : Int) (i : Int) ((a + 1 : Nat) : Int)) else (if (ints out).length < 17592186044416 then ((neonwrightref03_Choose.f k (a : Int) (i : Int)).bind fun t105 => ((neonwrightref03_Choose.f k (a : Int) ((i - 1 : Nat) : Int)).bind fun t106 => (neonwrightref03_Cascade.l0 k (wrap64 ((s : Int) - t105)) (ints out ++ [(a : Int)]) (wrap64 ((sh : Int) + t106)) ((i - 1 : Nat) : Int)))) else (none)))) (fun k => ?_) ?_
    · simp only [neonwrightref03_Cascade.l1]
      rw [e1, e2]
    · refine Ev.bnd (rchoose_ev (a + 1) i b1 (by omega)) ?_
      by_cases h4 : binom (a + 1) i ≤ s
      · exact Ev.pos (by omega) (ih (a + 1) (by omega) (by omega) h4)
      · have ht : a = top i s := by
          have hs1 : 1 ≤ s := by have := binom_pos a i h1; omega
          exact top_uniq hi hs1 h3 (by omega)
        refine Ev.neg (by omega) (Ev.pos (by rw [ints_length]; omega) ?_)
        refine Ev.bnd (rchoose_ev a i (way0 a i s hi hi2 h1 hs h3 i (Nat.le_refl _)) (by omega)) (Ev.bnd (rchoose_ev a (i - 1) (way0 a i s hi hi2 h1 hs h3 (i - 1) (by omega)) (by omega)) ?_)
        have h5 : binom a (i - 1) ≤ 2600000 := by
          have : binom (a + 1) i = binom a (i - 1) + binom a i := by
            obtain ⟨j, rfl⟩ : ∃ j, i = j + 1 := ⟨i - 1, by omega⟩
            exact binom_succ _ _
          omega
        have e3 : wrap64 ((s : Int) - (binom a i : Int)) = ((s - binom a i : Nat) : Int) := by rw [w64 (by omega) (by omega)]; omega
        have e4 : wrap64 ((sh : Int) + (binom a (i - 1) : Int)) = ((sh + binom a (i - 1) : Nat) : Int) := by rw [w64 (by omega) (by omega)]; omega
        have e5 : ints out ++ [(a : Int)] = ints (out ++ [a]) := by rw [ints_append]; rfl
        have e6 : ((i - 1 : Nat) : Int) = (i : Int) - 1 := by omega
        show Ev (fun n => neonwrightref03_Cascade.l0 n (wrap64 ((s : Int) - (binom a i : Int))) (ints out ++ [(a : Int)]) (wrap64 ((sh : Int) + (binom a (i - 1) : Int))) ((i - 1 : Nat) : Int)) R
        rw [e3, e4, e5, e6, ht]
        exact hR
theorem rcasc_l0 : ∀ (i s : Nat) (out : List Nat) (sh : Nat), i ≤ 12 → s ≤ 100000 → out.length + i ≤ 12 → sh + 2600000 * i ≤ 40000000 → (i = 0 → s = 0) →
    Ev (fun k => neonwrightref03_Cascade.l0 k (s : Int) (ints out) (sh : Int) (i : Int)) (ints (out ++ (casc i s).1), ((sh + (casc i s).2 : Nat) : Int), 0) := by
  intro i
  induction i with
  | zero =>
    intro s out sh _ _ _ _ h0
    obtain rfl := h0 rfl
    refine Ev.at 2 (fun k hk => ?_)
    obtain ⟨k, rfl⟩ : ∃ j, k = j + 2 := ⟨k - 2, by omega⟩
    simp only [neonwrightref03_Cascade.l0, neonwrightref03_Cascade.j2]
    rw [if_neg (by omega)]
    simp [casc]
  | succ i ih =>
    intro s out sh hi hs ho hsh _
    rcases Nat.eq_zero_or_pos s with rfl | hp
    · refine Ev.at 2 (fun k hk => ?_)
      obtain ⟨k, rfl⟩ : ∃ j, k = j + 2 := ⟨k - 2, by omega⟩
      simp only [neonwrightref03_Cascade.l0, neonwrightref03_Cascade.j2]
      rw [if_pos (by omega)]
      have : decide (((0 : Nat) : Int) > 0) = false := decide_eq_false (by omega)
      rw [this]
      simp [casc]
    · obtain ⟨t1, t2, t3⟩ := top_spec (i + 1) s (by omega) hp
      obtain ⟨b1, b2, b3⟩ := way (top (i + 1) s) (i + 1) s (by omega) hi t1 hs t2
      have hsucc : binom (top (i + 1) s + 1) (i + 1) = binom (top (i + 1) s) i + binom (top (i + 1) s) (i + 1) := binom_succ _ _
      have hz : i = 0 → s - binom (top (i + 1) s) (i + 1) = 0 := by
        intro e
        subst e
        simp only [Nat.zero_add, binom_one] at t2 t3 ⊢
        omega
      have hR := ih (s - binom (top (i + 1) s) (i + 1)) (out ++ [top (i + 1) s]) (sh + binom (top (i + 1) s) i) (by omega) (by omega) (by simp; omega) (by omega) hz
      have he : (casc (i + 1) s) = (top (i + 1) s :: (casc i (s - binom (top (i + 1) s) (i + 1))).1, binom (top (i + 1) s) i + (casc i (s - binom (top (i + 1) s) (i + 1))).2) := by
        rw [casc, if_neg (by omega)]
      rw [he]
      refine Ev.step (f := fun k => neonwrightref03_Cascade.j2 k (s : Int) (ints out) (sh : Int) ((i + 1 : Nat) : Int) true) (fun k => ?_) ?_
      · simp only [neonwrightref03_Cascade.l0]
        have : decide ((s : Int) > 0) = true := decide_eq_true (by omega)
        rw [if_pos (by omega), this]
      refine Ev.step (f := fun k => neonwrightref03_Cascade.l1 k (s : Int) (ints out) (sh : Int) ((i + 1 : Nat) : Int) ((i + 1 : Nat) : Int)) (fun k => ?_) ?_
      · simp only [neonwrightref03_Cascade.j2]
        rfl
      · refine rcasc_l1 (i + 1) s (by omega) hi hs out sh (by omega) (by omega) _ ?_ (s + 2) (i + 1) (Nat.le_refl _) (by omega) (by rw [binom_self]; exact hp)
        have e1 : (((i + 1 : Nat) : Int) - 1) = (i : Int) := by omega
        simp only [Nat.add_sub_cancel] at hR ⊢
        rw [e1]
        simp only [List.append_assoc, List.singleton_append, Nat.add_assoc] at hR ⊢
        exact hR
theorem rcasc_ev (s k : Nat) (h1 : 1 ≤ s) (h2 : s ≤ 100000) (h3 : 1 ≤ k) (h4 : k ≤ 12) : Ev (fun n => neonwrightref03_Cascade.f n (s : Int) (k : Int)) (ints (casc k s).1, ((casc k s).2 : Int), 0) := by
  have h := rcasc_l0 k s [] 0 h4 h2 (by simp; omega) (by omega) (by omega)
  refine Ev.congr (f := fun n => neonwrightref03_Cascade.j0 n (s : Int) (k : Int) false) (fun n => ?_) ?_
  · simp only [neonwrightref03_Cascade.f]
    rw [if_neg (by omega), if_neg (by omega), if_neg (by omega)]
    have : decide ((k : Int) > 12) = false := decide_eq_false (by omega)
    rw [this]
  · refine Ev.step (f := fun n => neonwrightref03_Cascade.l0 n (s : Int) ([] : List Int) 0 (k : Int)) (fun n => ?_) ?_
    · simp only [neonwrightref03_Cascade.j0]
      rfl
    · have e : ints [] = ([] : List Int) := rfl
      rw [← e]
      simpa using h
theorem rcasc_no (a b : Int) (h : a < 1 ∨ 100000 < a ∨ b < 1 ∨ 12 < b) : Ev (fun n => neonwrightref03_Cascade.f n a b) (([] : List Int), 0, 2) := by
  refine Ev.at 1 (fun k hk => ?_)
  obtain ⟨k, rfl⟩ : ∃ j, k = j + 1 := ⟨k - 1, by omega⟩
  simp only [neonwrightref03_Cascade.f, neonwrightref03_Cascade.j0]
  by_cases h1 : a < 1
  · rw [if_pos h1]; rfl
  · by_cases h2 : a > 100000
    · rw [if_neg h1, if_pos h2]; rfl
    · by_cases h3 : b < 1
      · rw [if_neg h1, if_neg h2, if_pos h3]; rfl
      · have : decide (b > 12) = true := decide_eq_true (by omega)
        rw [if_neg h1, if_neg h2, if_neg h3, this]; rfl

end Go.Proofs.Ytgchhheajngbfaa.P
