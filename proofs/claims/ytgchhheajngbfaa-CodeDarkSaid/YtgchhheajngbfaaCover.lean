/- Numbers as sets of bits: what covers what, and how many. -/
import Derived.Lib.BitFns
import Derived.Laws.Entries
import Derived.Laws.BitsLemmas
set_option linter.unusedSimpArgs false
set_option linter.unusedVariables false
namespace Go.Proofs.Ytgchhheajngbfaa.Kit
open Go.Lib

theorem and_half (s t : Nat) : (s &&& t) / 2 = (s / 2 &&& t / 2) := by
  have := @Nat.and_div_two_pow s t 1
  simpa using this
theorem and_low (s t : Nat) : (s &&& t) % 2 = (s % 2 &&& t % 2) := by
  have := @Nat.and_mod_two_pow s t 1
  simpa using this
theorem cover_half {s t : Nat} (h : s &&& t = t) : s / 2 &&& t / 2 = t / 2 := by rw [← and_half, h]
theorem cover_low {s t : Nat} (h : s &&& t = t) : t % 2 ≤ s % 2 := by
  have h1 := and_low s t
  rw [h] at h1
  rw [h1]
  exact Nat.and_le_left
theorem pop_cover : ∀ f s t, s &&& t = t → popAux f t ≤ popAux f s ∧ (popAux f t = popAux f s → t % 2 ^ f = s % 2 ^ f) := by
  intro f
  induction f with
  | zero => intro s t _; exact ⟨Nat.le_refl _, fun _ => by simp [Nat.mod_one]⟩
  | succ f ih =>
    intro s t h
    obtain ⟨h1, h2⟩ := ih (s / 2) (t / 2) (cover_half h)
    have h3 := cover_low h
    simp only [popAux]
    refine ⟨by omega, fun e => ?_⟩
    have h4 := h2 (by omega)
    have hs : ∀ x : Nat, x % 2 ^ (f + 1) = x % 2 + 2 * (x / 2 % 2 ^ f) := by
      intro x
      rw [Nat.pow_succ, Nat.mul_comm (2 ^ f) 2, Nat.mod_mul]
    rw [hs t, hs s, h4]
    omega
theorem ones_cover {s t : Nat} (h : s &&& t = t) : onesCount t ≤ onesCount s := (pop_cover 64 s t h).1
theorem ones_cover_eq {s t : Nat} (h : s &&& t = t) (hs : s < 2 ^ 64) (ht : t < 2 ^ 64) (e : onesCount t = onesCount s) : t = s := by
  have := (pop_cover 64 s t h).2 e
  rwa [Nat.mod_eq_of_lt hs, Nat.mod_eq_of_lt ht] at this
theorem and_parts {n s t A B : Nat} (hs : s < 2 ^ n) (ht : t < 2 ^ n) : (s + A * 2 ^ n) &&& (t + B * 2 ^ n) = (s &&& t) + (A &&& B) * 2 ^ n := by
  have hp := Nat.two_pow_pos n
  have h1 : ((s + A * 2 ^ n) &&& (t + B * 2 ^ n)) % 2 ^ n = (s &&& t) := by
    rw [Nat.and_mod_two_pow, Nat.add_mul_mod_self_right, Nat.add_mul_mod_self_right, Nat.mod_eq_of_lt hs, Nat.mod_eq_of_lt ht]
  have h2 : ((s + A * 2 ^ n) &&& (t + B * 2 ^ n)) / 2 ^ n = (A &&& B) := by
    rw [Nat.and_div_two_pow, Nat.add_mul_div_right _ _ hp, Nat.add_mul_div_right _ _ hp, Nat.div_eq_of_lt hs, Nat.div_eq_of_lt ht, Nat.zero_add, Nat.zero_add]
  have h3 := Nat.div_add_mod ((s + A * 2 ^ n) &&& (t + B * 2 ^ n)) (2 ^ n)
  rw [h1, h2, Nat.mul_comm] at h3
  omega
/-- Bits taken away: what is left is covered. -/
theorem andnot64 (x y : Nat) (hx : x < 9223372036854775808) (hy : y < 9223372036854775808) : Go.bits .andNot .i64 (x : Int) (y : Int) = ((x ^^^ (x &&& y) : Nat) : Int) := by
  have hx' : x % 2 ^ 64 = x := Nat.mod_eq_of_lt (Nat.lt_trans hx (by decide))
  have hy' : y % 2 ^ 64 = y := Nat.mod_eq_of_lt (Nat.lt_trans hy (by decide))
  have hlt : x ^^^ (x &&& y) < 2 ^ 63 := Nat.xor_lt_two_pow (by simpa using hx) (Nat.and_lt_two_pow _ (by simpa using hy))
  have hlt' : x ^^^ (x &&& y) < 9223372036854775808 := by simpa using hlt
  have e : ((BitVec.ofInt 64 (x : Int)) &&& ~~~(BitVec.ofInt 64 (y : Int))).toNat = x ^^^ (x &&& y) := by
    rw [BitVec.ofInt_natCast, BitVec.ofInt_natCast]
    apply Nat.eq_of_testBit_eq
    intro i
    rw [BitVec.testBit_toNat, BitVec.getLsbD_and, BitVec.getLsbD_not, Nat.testBit_xor, Nat.testBit_and]
    by_cases hi : i < 64
    · simp only [BitVec.getLsbD_ofNat, hi, decide_true, Bool.true_and]
      cases x.testBit i <;> cases y.testBit i <;> rfl
    · have : x.testBit i = false := Nat.testBit_lt_two_pow (Nat.lt_of_lt_of_le (Nat.lt_trans hx (by decide : 9223372036854775808 < 2 ^ 64)) (Nat.pow_le_pow_right (by decide) (by omega)))
      simp [hi, this, BitVec.getLsbD_ofNat]
  show IntKind.i64.wrap (((BitVec.ofInt 64 (x : Int)) &&& ~~~(BitVec.ofInt 64 (y : Int))).toNat : Int) = _
  rw [e, IntKind.wrap_i64]
  generalize x ^^^ (x &&& y) = p at hlt'
  omega
theorem sub_cover (x y : Nat) : x &&& (x ^^^ (x &&& y)) = x ^^^ (x &&& y) := by
  apply Nat.eq_of_testBit_eq
  intro i
  simp only [Nat.testBit_and, Nat.testBit_xor]
  cases x.testBit i <;> cases y.testBit i <;> rfl
theorem cover_le {s t : Nat} (h : s &&& t = t) : t ≤ s := by rw [← h]; exact Nat.and_le_left

end Go.Proofs.Ytgchhheajngbfaa.Kit
