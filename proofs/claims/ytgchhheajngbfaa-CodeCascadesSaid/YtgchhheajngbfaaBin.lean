/- Binomial coefficients, and the cascade of a number: plain recursion. -/
set_option linter.unusedSimpArgs false
set_option linter.unusedVariables false
namespace Go.Proofs.Ytgchhheajngbfaa.Kit

def binom : Nat → Nat → Nat
  | _, 0 => 1
  | 0, _ + 1 => 0
  | n + 1, k + 1 => binom n k + binom n (k + 1)
theorem binom_zero (n : Nat) : binom n 0 = 1 := by cases n <;> rfl
theorem binom_succ (n k : Nat) : binom (n + 1) (k + 1) = binom n k + binom n (k + 1) := rfl
theorem binom_gt : ∀ n k, n < k → binom n k = 0 := by
  intro n
  induction n with
  | zero => intro k h; cases k with
    | zero => omega
    | succ k => rfl
  | succ n ih =>
    intro k h
    cases k with
    | zero => omega
    | succ k => rw [binom_succ, ih k (by omega), ih (k + 1) (by omega)]
theorem binom_self (n : Nat) : binom n n = 1 := by
  induction n with
  | zero => rfl
  | succ n ih => rw [binom_succ, ih, binom_gt n (n + 1) (by omega)]
theorem binom_one (n : Nat) : binom n 1 = n := by
  induction n with
  | zero => rfl
  | succ n ih => rw [binom_succ n 0, ih, binom_zero]; omega
theorem binom_pos : ∀ n k, k ≤ n → 0 < binom n k := by
  intro n
  induction n with
  | zero => intro k h; cases k with
    | zero => decide
    | succ k => omega
  | succ n ih =>
    intro k h
    cases k with
    | zero => rw [binom_zero]; decide
    | succ k => rw [binom_succ]; have := ih k (by omega); omega
theorem binom_mul : ∀ n k, binom n (k + 1) * (k + 1) = binom n k * (n - k) := by
  intro n
  induction n with
  | zero => intro k; simp [binom]
  | succ n ih =>
    intro k
    cases k with
    | zero => rw [binom_one, binom_zero]; omega
    | succ k =>
      rw [binom_succ n (k + 1), binom_succ n k]
      have h1 := ih k
      have h2 := ih (k + 1)
      rcases Nat.lt_or_ge k n with h | h
      · have e : n + 1 - (k + 1) = (n - (k + 1)) + 1 := by omega
        have e1 : n - k = (n - (k + 1)) + 1 := by omega
        rw [e1] at h1
        rw [e]
        generalize n - (k + 1) = d at *
        rw [show k + 1 + 1 = (k + 1) + 1 from rfl] at *
        simp only [Nat.add_mul, Nat.mul_add, Nat.mul_one, Nat.one_mul] at *
        omega
      · rw [binom_gt n (k + 1) (by omega), binom_gt n (k + 1 + 1) (by omega), show n + 1 - (k + 1) = 0 from by omega]
        simp
theorem binom_le_succ (n k : Nat) : binom n k ≤ binom (n + 1) k := by
  cases k with
  | zero => rw [binom_zero, binom_zero]; exact Nat.le_refl _
  | succ k => rw [binom_succ]; omega
theorem binom_mono {n m : Nat} (h : n ≤ m) (k : Nat) : binom n k ≤ binom m k := by
  induction h with
  | refl => exact Nat.le_refl _
  | step _ ih => exact Nat.le_trans ih (binom_le_succ _ _)
theorem binom_symm : ∀ n k, k ≤ n → binom n k = binom n (n - k) := by
  intro n
  induction n with
  | zero => intro k h; obtain rfl : k = 0 := by omega
            rfl
  | succ n ih =>
    intro k h
    cases k with
    | zero => rw [binom_zero, Nat.sub_zero, binom_self]
    | succ k =>
      rcases Nat.lt_or_ge k n with h1 | h1
      · have e : n + 1 - (k + 1) = (n - (k + 1)) + 1 := by omega
        rw [binom_succ, e, binom_succ, ih k (by omega), ih (k + 1) (by omega), show n - k = n - (k + 1) + 1 from by omega]
        omega
      · obtain rfl : k = n := by omega
        rw [binom_self, show k + 1 - (k + 1) = 0 from by omega, binom_zero]
/-- A coefficient in the middle grows at least as the upper number. -/
theorem binom_ge (i : Nat) (hi : 1 ≤ i) : ∀ a, i ≤ a → a + 1 ≤ binom a i + i := by
  intro a
  induction a with
  | zero => intro h; omega
  | succ a ih =>
    intro h
    obtain ⟨j, rfl⟩ : ∃ j, i = j + 1 := ⟨i - 1, by omega⟩
    rw [binom_succ]
    rcases Nat.lt_or_ge a (j + 1) with h1 | h1
    · obtain rfl : a = j := by omega
      rw [binom_self]; omega
    · have := ih h1
      have := binom_pos a j (by omega)
      omega
/-- Coefficients with lower numbers up to the middle rise. -/
theorem binom_rise (n i : Nat) (h : 2 * i + 1 ≤ n) : binom n i ≤ binom n (i + 1) := by
  have h1 := binom_mul n i
  have h2 : binom n i * (i + 1) ≤ binom n i * (n - i) := Nat.mul_le_mul_left _ (by omega)
  rw [← h1] at h2
  exact Nat.le_of_mul_le_mul_right h2 (by omega)
theorem binom_rise_le (n : Nat) : ∀ k i, i ≤ k → 2 * k ≤ n → binom n i ≤ binom n k := by
  intro k
  induction k with
  | zero => intro i h _; obtain rfl : i = 0 := by omega
            exact Nat.le_refl _
  | succ k ih =>
    intro i h h2
    rcases Nat.lt_or_ge i (k + 1) with h1 | h1
    · exact Nat.le_trans (ih i (by omega) (by omega)) (binom_rise n k (by omega))
    · obtain rfl : i = k + 1 := by omega
      exact Nat.le_refl _
theorem binom_24 : ∀ n : Fin 25, ∀ i : Fin 25, binom n.val i.val ≤ 2704156 := by decide +kernel
/-- On the way to a coefficient of at most 100000 (or the next one) with a lower number up to 12 nothing is great. -/
theorem binom_way (n k i : Nat) (hk : k ≤ 12) (hi : i ≤ k) (hn : n ≤ 100013) (hb : binom n k ≤ 2704156) : binom n i * n ≤ 4611686018427387904 := by
  rcases Nat.lt_or_ge n 25 with h | h
  · have h1 := binom_24 ⟨n, h⟩ ⟨i, by omega⟩
    simp only at h1
    have := Nat.mul_le_mul h1 (show n ≤ 25 from by omega)
    omega
  · have h1 := Nat.le_trans (binom_rise_le n k i hi (by omega)) hb
    have := Nat.mul_le_mul h1 hn
    omega

/-! The cascade. -/
def topF : Nat → Nat → Nat → Nat → Nat
  | 0, _, _, a => a
  | f + 1, i, s, a => if binom (a + 1) i ≤ s then topF f i s (a + 1) else a
def top (i s : Nat) : Nat := topF (s + i + 1) i s i
theorem topF_spec (i s : Nat) (hi : 1 ≤ i) : ∀ f a, i ≤ a → s + i + 1 ≤ f + a → binom a i ≤ s → a ≤ topF f i s a ∧ binom (topF f i s a) i ≤ s ∧ s < binom (topF f i s a + 1) i := by
  intro f
  induction f with
  | zero =>
    intro a h1 h2 h3
    have := binom_ge i hi a h1
    omega
  | succ f ih =>
    intro a h1 h2 h3
    unfold topF
    split
    · rename_i h4
      obtain ⟨k1, k2, k3⟩ := ih (a + 1) (by omega) (by omega) h4
      exact ⟨by omega, k2, k3⟩
    · exact ⟨Nat.le_refl _, h3, by omega⟩
theorem top_spec (i s : Nat) (hi : 1 ≤ i) (hs : 1 ≤ s) : i ≤ top i s ∧ binom (top i s) i ≤ s ∧ s < binom (top i s + 1) i :=
  topF_spec i s hi _ i (Nat.le_refl _) (by omega) (by rw [binom_self]; exact hs)
theorem binom_strict {i a b : Nat} (h : binom a i < binom b i) : a < b := by
  rcases Nat.lt_or_ge a b with h1 | h1
  · exact h1
  · have := binom_mono h1 i
    omega
/-- Only one number is so. -/
theorem top_uniq {i s b : Nat} (hi : 1 ≤ i) (hs : 1 ≤ s) (h1 : binom b i ≤ s) (h2 : s < binom (b + 1) i) : b = top i s := by
  obtain ⟨_, k2, k3⟩ := top_spec i s hi hs
  have := binom_strict (Nat.lt_of_le_of_lt h1 k3)
  have := binom_strict (Nat.lt_of_le_of_lt k2 h2)
  omega
def casc : Nat → Nat → List Nat × Nat
  | 0, _ => ([], 0)
  | i + 1, s => if s = 0 then ([], 0) else (top (i + 1) s :: (casc i (s - binom (top (i + 1) s) (i + 1))).1, binom (top (i + 1) s) i + (casc i (s - binom (top (i + 1) s) (i + 1))).2)
theorem casc_zero (i : Nat) : casc i 0 = ([], 0) := by cases i <;> rfl

end Go.Proofs.Ytgchhheajngbfaa.Kit
