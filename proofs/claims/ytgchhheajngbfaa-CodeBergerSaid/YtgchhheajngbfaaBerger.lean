/- Berger and Decode, the program's and the reference's: what they come to. -/
import Derived.Test.YtgchhheajngbfaaPf19
import Derived.Test.YtgchhheajngbfaaPf21
import Derived.Test.YtgchhheajngbfaaPf20
import Derived.Test.YtgchhheajngbfaaPf22
import Derived.Test.YtgchhheajngbfaaPf23
import Derived.Test.YtgchhheajngbfaaKit
import Derived.Test.YtgchhheajngbfaaPop
set_option linter.unusedSimpArgs false
set_option linter.unusedVariables false
namespace Go.Proofs.Ytgchhheajngbfaa.P
open Go.RowKit Go.Proofs.YtgchhheajngbfaaW.PrintWords Go.Proofs.YtgchhheajngbfaaW.PrintMore Go.Proofs.Ytgchhheajngbfaa.Kit Go.Lib

theorem popAux_zero : ∀ k, popAux k 0 = 0 := by
  intro k
  induction k with
  | zero => rfl
  | succ k ih => simp only [popAux]; simpa using ih
theorem popAux_le : ∀ f g x, x < 2 ^ f → popAux g x ≤ f := by
  intro f
  induction f with
  | zero =>
    intro g x h
    obtain rfl : x = 0 := by simpa using h
    rw [popAux_zero]
    exact Nat.le_refl _
  | succ f ih =>
    intro g x h
    cases g with
    | zero => exact Nat.zero_le _
    | succ g =>
      simp only [popAux]
      have := ih g (x / 2) (by rw [Nat.pow_succ] at h; omega)
      omega
theorem popAux_fuel : ∀ f g x, x < 2 ^ f → f ≤ g → popAux g x = popAux f x := by
  intro f
  induction f with
  | zero =>
    intro g x h _
    obtain rfl : x = 0 := by simpa using h
    rw [popAux_zero, popAux_zero]
  | succ f ih =>
    intro g x h hg
    obtain ⟨g, rfl⟩ : ∃ j, g = j + 1 := ⟨g - 1, by omega⟩
    simp only [popAux]
    rw [ih g (x / 2) (by rw [Nat.pow_succ] at h; omega) (by omega)]
theorem ones_lt {n s : Nat} (h : s < 2 ^ n) : onesCount s ≤ n := popAux_le n 64 s h

theorem shl_nat (x n : Nat) (hn : n ≤ 63) (h : x * 2 ^ n < 9223372036854775808) : shl .i64 (x : Int) (n : Int) = ((x * 2 ^ n : Nat) : Int) := by
  unfold shl
  have hb : IntKind.i64.bits = 64 := rfl
  rw [hb, Nat.min_eq_left (by omega), IntKind.wrap_i64]
  have h3 : ((x : Int) * (2 : Int) ^ ((n : Int)).toNat) = ((x * 2 ^ n : Nat) : Int) := by simp
  rw [h3]
  generalize x * 2 ^ n = p at h
  omega

theorem lit_l0 : ∀ (f x acc : Nat), x < 2 ^ f → f ≤ 62 → acc + f ≤ 64 → Ev (fun k => neonwrightref03_Lit.l0 k (x : Int) (acc : Int)) ((acc + popAux f x : Nat) : Int) := by
  intro f
  induction f with
  | zero =>
    intro x acc h _ _
    obtain rfl : x = 0 := by simpa using h
    refine Ev.step (f := fun _ => some ((acc + popAux 0 0 : Nat) : Int)) (fun k => ?_) (Ev.now _)
    simp only [neonwrightref03_Lit.l0]
    rw [if_neg (by omega)]
    simp [popAux]
  | succ f ih =>
    intro x acc h hf ha
    rcases Nat.eq_zero_or_pos x with rfl | hx
    · refine Ev.step (f := fun _ => some ((acc + popAux (f + 1) 0 : Nat) : Int)) (fun k => ?_) (Ev.now _)
      simp only [neonwrightref03_Lit.l0]
      rw [if_neg (by omega), popAux_zero]
      rfl
    · have hp := pow_le62 (n := f + 1) (by omega)
      by_cases ha64 : acc + x % 2 + f ≤ 64
      · have h1 := ih (x / 2) (acc + x % 2) (by rw [Nat.pow_succ] at h; omega) (by omega) ha64
        have e0 : acc + popAux (f + 1) x = acc + x % 2 + popAux f (x / 2) := by simp only [popAux]; omega
        rw [e0]
        refine Ev.step (f := fun k => neonwrightref03_Lit.l0 k ((x / 2 : Nat) : Int) ((acc + x % 2 : Nat) : Int)) (fun k => ?_) h1
        simp only [neonwrightref03_Lit.l0]
        have e1 : wrap64 (Int.tdiv (x : Int) 2) = ((x / 2 : Nat) : Int) := by
          have : Int.tdiv (x : Int) 2 = ((x / 2 : Nat) : Int) := tdivn x 2
          rw [this]
          exact w64n _ (by omega)
        have e2 : wrap64 ((acc : Int) + Int.tmod (x : Int) 2) = ((acc + x % 2 : Nat) : Int) := by
          have : Int.tmod (x : Int) 2 = ((x % 2 : Nat) : Int) := tmodn x 2
          rw [this, ← Int.natCast_add]
          exact w64n _ (by omega)
        rw [if_pos (by omega), e1, e2]
      · exfalso
        omega
/-- The reference's way of counting. -/
theorem lit_ev (s f : Nat) (h : s < 2 ^ f) (hf : f ≤ 62) : Ev (fun k => neonwrightref03_Lit.f k (s : Int)) (onesCount s : Int) := by
  have h1 := lit_l0 f s 0 h hf (by omega)
  rw [Nat.zero_add, ← popAux_fuel f 64 s h (by omega)] at h1
  exact h1

theorem sized_t {n : Nat} (h1 : 1 ≤ n) (h2 : n ≤ 12) : code_sized.f (n : Int) = some true := by
  unfold code_sized.f
  rw [if_pos (by omega), decide_eq_true (by omega)]
theorem sized_f {n : Int} (h : n < 1 ∨ 12 < n) : code_sized.f n = some false := by
  unfold code_sized.f
  by_cases h1 : n ≥ 1
  · rw [if_pos h1, decide_eq_false (by omega)]
  · rw [if_neg h1]
theorem tubes_t {n : Nat} (h1 : 1 ≤ n) (h2 : n ≤ 12) : neonwrightref03_Tubes.f (n : Int) = some true := by
  unfold neonwrightref03_Tubes.f
  rw [if_pos (by omega), decide_eq_true (by omega)]
theorem tubes_f {n : Int} (h : n < 1 ∨ 12 < n) : neonwrightref03_Tubes.f n = some false := by
  unfold neonwrightref03_Tubes.f
  by_cases h1 : n ≥ 1
  · rw [if_pos h1, decide_eq_false (by omega)]
  · rw [if_neg h1]
theorem sign_t {n s : Nat} (h2 : n ≤ 12) (h : s < 2 ^ n) : code_sign.f (n : Int) (s : Int) = some true := by
  unfold code_sign.f
  rw [if_pos (by omega), if_pos (by omega), shl1n (by omega), decide_eq_true (by omega)]
theorem sign_f {n : Nat} {s : Int} (h2 : n ≤ 12) (h : s < 0 ∨ ((2 ^ n : Nat) : Int) ≤ s) : code_sign.f (n : Int) s = some false := by
  unfold code_sign.f
  by_cases h1 : s ≥ 0
  · rw [if_pos h1, if_pos (by omega), shl1n (by omega), decide_eq_false (by omega)]
  · rw [if_neg h1]
def wordN (n s : Nat) : Nat := s + (n - onesCount s) * 2 ^ n
theorem wordN_lt {n s : Nat} (h2 : n ≤ 12) (h : s < 2 ^ n) : wordN n s < 2 ^ 20 ∧ (n - onesCount s) * 2 ^ n ≤ 12 * 4096 ∧ 2 ^ n ≤ 4096 := by
  have hp : 2 ^ n ≤ 2 ^ 12 := Nat.pow_le_pow_right (by decide) h2
  have hp' : 2 ^ n ≤ 4096 := hp
  have := Nat.mul_le_mul (show n - onesCount s ≤ 12 from by omega) hp'
  unfold wordN
  omega
theorem word_t {n s : Nat} (h2 : n ≤ 12) (h : s < 2 ^ n) : code_word.f (n : Int) (s : Int) = some (wordN n s : Int) := by
  obtain ⟨l1, l2, l3⟩ := wordN_lt h2 h
  have l1' : wordN n s < 1048576 := l1
  have ho := ones_lt h
  unfold code_word.f bits_OnesCount.f
  have e0 : IntKind.u64.wrap (s : Int) = (s : Int) := u64w (by omega)
  have e1 : wrap64 ((n : Int) - (onesCount s : Int)) = ((n - onesCount s : Nat) : Int) := by rw [w64 (by omega) (by omega)]; omega
  rw [e0, if_pos (by omega), Int.toNat_natCast]
  simp only [Option.bind_some]
  rw [if_pos (by omega), e1, shl_nat _ _ (by omega) (by omega), or64 _ _ (by omega) (by omega)]
  congr 2
  unfold wordN
  rw [Nat.or_comm, Nat.mul_comm, ← Nat.two_pow_add_eq_or_of_lt h]
  omega
theorem berger_t {n s : Nat} (h1 : 1 ≤ n) (h2 : n ≤ 12) (h : s < 2 ^ n) : code_Berger.f (n : Int) (s : Int) = some ((wordN n s : Int), 0) := by
  unfold code_Berger.f
  rw [sized_t h1 h2]
  simp only [Option.bind_some, if_true]
  rw [sign_t h2 h]
  simp only [Option.bind_some, if_true]
  rw [word_t h2 h]
  rfl
theorem berger_f {n s : Int} (h : n < 1 ∨ 12 < n ∨ s < 0 ∨ ((2 ^ n.toNat : Nat) : Int) ≤ s) : code_Berger.f n s = some (0, 2) := by
  unfold code_Berger.f
  by_cases h1 : n < 1 ∨ 12 < n
  · rw [sized_f h1]
    rfl
  · obtain ⟨m, rfl⟩ : ∃ m : Nat, n = m := ⟨n.toNat, by omega⟩
    rw [sized_t (by omega) (by omega)]
    simp only [Option.bind_some, if_true]
    rw [Int.toNat_natCast] at h
    rw [sign_f (by omega) (by omega)]
    rfl
theorem rword {n s : Nat} (h2 : n ≤ 12) (h : s < 2 ^ n) : wrap64 ((s : Int) + (shl .i64 (wrap64 ((n : Int) - (onesCount s : Int))) (n : Int))) = (wordN n s : Int) := by
  obtain ⟨l1, l2, l3⟩ := wordN_lt h2 h
  have l1' : wordN n s < 1048576 := l1
  have ho := ones_lt h
  have e1 : wrap64 ((n : Int) - (onesCount s : Int)) = ((n - onesCount s : Nat) : Int) := by rw [w64 (by omega) (by omega)]; omega
  rw [e1, shl_nat _ _ (by omega) (by omega), ← Int.natCast_add]
  exact w64n _ (by unfold wordN at l1'; omega)
theorem rberger_t {n s : Nat} (h1 : 1 ≤ n) (h2 : n ≤ 12) (h : s < 2 ^ n) : Ev (fun k => neonwrightref03_Berger.f k (n : Int) (s : Int)) ((wordN n s : Int), 0) := by
  refine Ev.congr (f := fun k => (neonwrightref03_Lit.f k (s : Int)).bind fun t192 => (some (wrap64 ((s : Int) + (shl .i64 (wrap64 ((n : Int) - t192)) (n : Int))), 0))) (fun k => ?_) ?_
  · simp only [neonwrightref03_Berger.f]
    rw [tubes_t h1 h2]
    simp only [Option.bind_some, if_true]
    rw [if_neg (by omega), if_pos (by omega), shl1n (by omega), if_neg (by omega)]
  · refine Ev.bnd (lit_ev s n h (by omega)) (Ev.ret ?_)
    rw [rword h2 h]
theorem rberger_f {n s : Int} (h : n < 1 ∨ 12 < n ∨ s < 0 ∨ ((2 ^ n.toNat : Nat) : Int) ≤ s) : Ev (fun k => neonwrightref03_Berger.f k n s) ((0 : Int), (2 : Int)) := by
  refine Ev.at 0 (fun k _ => ?_)
  unfold neonwrightref03_Berger.f
  by_cases h1 : n < 1 ∨ 12 < n
  · rw [tubes_f h1]
    rfl
  · obtain ⟨m, rfl⟩ : ∃ m : Nat, n = m := ⟨n.toNat, by omega⟩
    rw [tubes_t (by omega) (by omega)]
    simp only [Option.bind_some, if_true]
    rw [Int.toNat_natCast] at h
    by_cases h2 : s < 0
    · rw [if_pos h2]
    · rw [if_neg h2, if_pos (by omega), shl1n (by omega), if_pos (by omega)]

/-! Decode. -/
theorem bitLen12 : ∀ n : Fin 13, Lib.bitLen n.val ≤ 4 := by decide +kernel
theorem rbits_l0 : ∀ (f x acc : Nat), x < 2 ^ f → f ≤ 62 → acc + f ≤ 64 → Ev (fun k => neonwrightref03_bits.l0 k (x : Int) (acc : Int)) ((acc + bitLenAux f x : Nat) : Int) := by
  intro f
  induction f with
  | zero =>
    intro x acc h _ _
    obtain rfl : x = 0 := by simpa using h
    refine Ev.step (f := fun _ => some ((acc + bitLenAux 0 0 : Nat) : Int)) (fun k => ?_) (Ev.now _)
    simp only [neonwrightref03_bits.l0]
    rw [if_neg (by omega)]
    simp [bitLenAux]
  | succ f ih =>
    intro x acc h hf ha
    have hp := pow_le62 (n := f + 1) (by omega)
    rcases Nat.eq_zero_or_pos x with rfl | hx
    · refine Ev.step (f := fun _ => some ((acc + bitLenAux (f + 1) 0 : Nat) : Int)) (fun k => ?_) (Ev.now _)
      simp only [neonwrightref03_bits.l0]
      rw [if_neg (by omega)]
      simp [bitLenAux]
    · have h1 := ih (x / 2) (acc + 1) (by rw [Nat.pow_succ] at h; omega) (by omega) (by omega)
      have e0 : acc + bitLenAux (f + 1) x = acc + 1 + bitLenAux f (x / 2) := by simp only [bitLenAux]; rw [if_neg (by omega)]; omega
      rw [e0]
      refine Ev.step (f := fun k => neonwrightref03_bits.l0 k ((x / 2 : Nat) : Int) ((acc + 1 : Nat) : Int)) (fun k => ?_) h1
      simp only [neonwrightref03_bits.l0]
      have e1 : wrap64 (Int.tdiv (x : Int) 2) = ((x / 2 : Nat) : Int) := by
        have : Int.tdiv (x : Int) 2 = ((x / 2 : Nat) : Int) := tdivn x 2
        rw [this]
        exact w64n _ (by omega)
      have e2 : wrap64 ((acc : Int) + 1) = ((acc + 1 : Nat) : Int) := by
        rw [w64 (by omega) (by omega)]; omega
      rw [if_pos (by omega), e1, e2]
theorem rbits_ev (x f : Nat) (h : x < 2 ^ f) (hf : f ≤ 62) : Ev (fun k => neonwrightref03_bits.f k (x : Int)) (Lib.bitLen x : Int) := by
  have h1 := rbits_l0 f x 0 h hf (by omega)
  rw [Nat.zero_add, ← bitLenAux_fuel f x h 64 (by omega)] at h1
  exact h1
theorem pow16 {n m : Nat} (h : n ≤ 12) (hm : m ≤ 4) : 2 ^ (n + m) ≤ 65536 := by
  have : 2 ^ (n + m) ≤ 2 ^ 16 := Nat.pow_le_pow_right (by decide) (by omega)
  simpa using this
theorem wdec (p : Nat) (h0 : 0 < p) (hp : p ≤ 4096) : wrap64 ((p : Int) - 1) = ((p - 1 : Nat) : Int) := by
  rw [w64 (by omega) (by omega)]
  omega
theorem lt_big {p : Nat} (hp : p ≤ 65536) : p < 9223372036854775808 := by omega
theorem mask {n r : Nat} (hn : n ≤ 12) (hr : r < 65536) : Go.bits .and .i64 (r : Int) (wrap64 ((shl .i64 1 (n : Int)) - 1)) = ((r % 2 ^ n : Nat) : Int) := by
  have hp : 2 ^ n ≤ 2 ^ 12 := Nat.pow_le_pow_right (by decide) hn
  have h0 : 0 < 2 ^ n := Nat.two_pow_pos n
  have h62 : n ≤ 62 := by omega
  rw [shl1n h62, wdec (2 ^ n) h0 hp, and64 r (2 ^ n - 1) (lt_big (Nat.le_of_lt hr)) (lt_big (Nat.le_trans (Nat.sub_le _ _) (Nat.le_trans hp (by decide)))), Nat.and_two_pow_sub_one_eq_mod]
theorem int_beq (a b : Nat) : ((a : Int) == (b : Int)) = decide (a = b) := by
  rw [Bool.eq_iff_iff]
  simp
  omega
theorem decode_t {n r : Nat} (h1 : 1 ≤ n) (h2 : n ≤ 12) (h : r < 2 ^ (n + Lib.bitLen n)) : code_Decode.f (n : Int) (r : Int) = some (((r % 2 ^ n : Nat) : Int), decide (wordN n (r % 2 ^ n) = r), 0) := by
  have hb := bitLen12 ⟨n, by omega⟩
  simp only at hb
  have hp := pow16 h2 hb
  have hw : IntKind.u64.wrap (n : Int) = (n : Int) := u64w (by omega)
  have e1 : wrap64 ((n : Int) + (Lib.bitLen n : Int)) = ((n + Lib.bitLen n : Nat) : Int) := by rw [w64 (by omega) (by omega)]; omega
  have hm : r % 2 ^ n < 2 ^ n := Nat.mod_lt _ (Nat.two_pow_pos n)
  unfold code_Decode.f bits_Len.f
  rw [sized_t h1 h2]
  rw [Option.bind_some, if_pos rfl]
  rw [if_neg (by omega), hw, if_pos (by omega), Int.toNat_natCast]
  rw [Option.bind_some]
  have hd := int_beq (wordN n (r % 2 ^ n)) r
  have g1 : (0 : Int) ≤ ((n + Lib.bitLen n : Nat) : Int) := Int.natCast_nonneg _
  have g2 : n + Lib.bitLen n ≤ 62 := by omega
  have g3 : ¬ ((r : Int) ≥ ((2 ^ (n + Lib.bitLen n) : Nat) : Int)) := Int.not_le.2 (Int.ofNat_lt.2 h)
  have g4 : (0 : Int) ≤ (n : Int) := Int.natCast_nonneg _
  rw [e1, if_pos g1, shl1n g2, if_neg g3, if_pos g4, mask h2 (Nat.lt_of_lt_of_le h hp), word_t h2 hm]
  rw [Option.bind_some]
  rw [hd]
theorem decode_f {n r : Int} (h : n < 1 ∨ 12 < n ∨ r < 0 ∨ ((2 ^ (n.toNat + Lib.bitLen n.toNat) : Nat) : Int) ≤ r) : code_Decode.f n r = some (0, false, 2) := by
  unfold code_Decode.f bits_Len.f
  by_cases h1 : n < 1 ∨ 12 < n
  · rw [sized_f h1]
    rfl
  · obtain ⟨m, rfl⟩ : ∃ m : Nat, n = m := ⟨n.toNat, by omega⟩
    rw [sized_t (by omega) (by omega)]
    rw [Option.bind_some, if_pos rfl]
    rw [Int.toNat_natCast] at h
    by_cases h2 : r < 0
    · rw [if_pos h2]
    · have hb := bitLen12 ⟨m, by omega⟩
      simp only at hb
      have hw : IntKind.u64.wrap (m : Int) = (m : Int) := u64w (by omega)
      have e1 : wrap64 ((m : Int) + (Lib.bitLen m : Int)) = ((m + Lib.bitLen m : Nat) : Int) := by rw [w64 (by omega) (by omega)]; omega
      rw [if_neg h2, hw, if_pos (by omega), Int.toNat_natCast]
      rw [Option.bind_some]
      rw [e1, if_pos (by omega), shl1n (by omega), if_pos (by omega)]
theorem rdecode_t {n r : Nat} (h1 : 1 ≤ n) (h2 : n ≤ 12) (h : r < 2 ^ (n + Lib.bitLen n)) : Ev (fun k => neonwrightref03_Decode.f k (n : Int) (r : Int)) (((r % 2 ^ n : Nat) : Int), decide (wordN n (r % 2 ^ n) = r), 0) := by
  have hb := bitLen12 ⟨n, by omega⟩
  simp only at hb
  have hp := pow16 h2 hb
  have e1 : wrap64 ((n : Int) + (Lib.bitLen n : Int)) = ((n + Lib.bitLen n : Nat) : Int) := by rw [w64 (by omega) (by omega)]; omega
  have hm : r % 2 ^ n < 2 ^ n := Nat.mod_lt _ (Nat.two_pow_pos n)
  have h0 : 0 < 2 ^ n := Nat.two_pow_pos n
  have h13 : n < 2 ^ 4 := by simp only [Nat.reducePow]; omega
  refine Ev.congr (f := fun k => (neonwrightref03_bits.f k (n : Int)).bind fun t196 => (if 0 ≤ (wrap64 ((n : Int) + t196)) then (if (r : Int) ≥ (shl .i64 1 (wrap64 ((n : Int) + t196))) then (some (0, false, 2)) else (if 0 ≤ (n : Int) then (if ((2 ^ n : Nat) : Int) = 0 then (none) else ((neonwrightref03_Lit.f k (((r % 2 ^ n : Nat) : Int))).bind fun t197 => (some ((((r % 2 ^ n : Nat) : Int)), ((r : Int) == (wrap64 ((((r % 2 ^ n : Nat) : Int)) + (shl .i64 (wrap64 ((n : Int) - t197)) (n : Int))))), 0)))) else (none))) else (none))) (fun k => ?_) ?_
  · unfold neonwrightref03_Decode.f
    rw [tubes_t h1 h2]
    rw [Option.bind_some, if_pos rfl]
    rw [if_neg (by omega), shl1n (by omega), tmodn]
  · refine Ev.bnd (rbits_ev n 4 h13 (by omega)) (Ev.pos (by rw [e1]; omega) (Ev.neg (by rw [e1, shl1n (by omega)]; omega) (Ev.pos (by omega) (Ev.neg (by omega) (Ev.bnd (lit_ev _ n hm (by omega)) (Ev.ret ?_))))))
    rw [rword h2 hm, int_beq]
    rw [show decide (r = wordN n (r % 2 ^ n)) = decide (wordN n (r % 2 ^ n) = r) from decide_eq_decide.2 eq_comm]
theorem rdecode_f {n r : Int} (h : n < 1 ∨ 12 < n ∨ r < 0 ∨ ((2 ^ (n.toNat + Lib.bitLen n.toNat) : Nat) : Int) ≤ r) : Ev (fun k => neonwrightref03_Decode.f k n r) ((0 : Int), false, (2 : Int)) := by
  by_cases h1 : n < 1 ∨ 12 < n
  · refine Ev.at 0 (fun k _ => ?_)
    unfold neonwrightref03_Decode.f
    rw [tubes_f h1]
    rfl
  · obtain ⟨m, rfl⟩ : ∃ m : Nat, n = m := ⟨n.toNat, by omega⟩
    rw [Int.toNat_natCast] at h
    by_cases h2 : r < 0
    · refine Ev.at 0 (fun k _ => ?_)
      unfold neonwrightref03_Decode.f
      rw [tubes_t (by omega) (by omega)]
      rw [Option.bind_some, if_pos rfl]
      rw [if_pos h2]
    · have hb := bitLen12 ⟨m, by omega⟩
      simp only at hb
      have e1 : wrap64 ((m : Int) + (Lib.bitLen m : Int)) = ((m + Lib.bitLen m : Nat) : Int) := by rw [w64 (by omega) (by omega)]; omega
      have h13 : m < 2 ^ 4 := by simp only [Nat.reducePow]; omega
      obtain ⟨k0, hk0⟩ := rbits_ev m 4 h13 (by omega)
      refine Ev.at k0 (fun k hk => ?_)
      unfold neonwrightref03_Decode.f
      rw [tubes_t (by omega) (by omega)]
      rw [Option.bind_some, if_pos rfl]
      have hk1 : neonwrightref03_bits.f k (m : Int) = some (Lib.bitLen m : Int) := hk0 k hk
      rw [if_neg h2, hk1]
      rw [Option.bind_some]
      rw [e1, if_pos (by omega), shl1n (by omega), if_pos (by omega)]

end Go.Proofs.Ytgchhheajngbfaa.P
