/- Small plain lemmas: rounds that are enough, words without overflow, shifts, bit operations on numbers that are not negative. -/
import Derived.Test.YtgchhheajngbfaaWWords
import Derived.Test.YtgchhheajngbfaaWMore
import Derived.Laws.Entries
import Derived.Laws.BitsLemmas
set_option linter.unusedSimpArgs false
set_option linter.unusedVariables false
namespace Go.Proofs.Ytgchhheajngbfaa.Kit
open Go.RowKit Go.Proofs.YtgchhheajngbfaaW.PrintWords Go.Proofs.YtgchhheajngbfaaW.PrintMore

theorem Ev.pos {α : Type} {c : Prop} [Decidable c] {f g : Nat → Option α} {r : α} (h : c) (k : Ev f r) : Ev (fun n => if c then f n else g n) r := by
  obtain ⟨K, hK⟩ := k
  exact ⟨K, fun n hn => by show (if c then f n else g n) = some r; rw [if_pos h]; exact hK n hn⟩
theorem Ev.neg {α : Type} {c : Prop} [Decidable c] {f g : Nat → Option α} {r : α} (h : ¬ c) (k : Ev g r) : Ev (fun n => if c then f n else g n) r := by
  obtain ⟨K, hK⟩ := k
  exact ⟨K, fun n hn => by show (if c then f n else g n) = some r; rw [if_neg h]; exact hK n hn⟩
theorem Ev.bnd {α β : Type} {g : Nat → Option α} {f : Nat → α → Option β} {a : α} {r : β} (h : Ev g a) (k : Ev (fun n => f n a) r) : Ev (fun n => (g n).bind (fun t => f n t)) r := Ev.bind h k
theorem Ev.sbind {α β : Type} {f : Nat → α → Option β} {a : α} {r : β} (k : Ev (fun n => f n a) r) : Ev (fun n => (some a).bind (fun t => f n t)) r := k
theorem Ev.ret {α : Type} {a r : α} (h : a = r) : Ev (fun _ => some a) r := ⟨0, fun _ _ => by rw [h]⟩
theorem Ev.at {α : Type} {g : Nat → Option α} {r : α} (K : Nat) (h : ∀ k, K ≤ k → g k = some r) : Ev g r := ⟨K, h⟩
/-- Of two that hold of one function the answers are one. -/
theorem Ev.uniq {α : Type} {g : Nat → Option α} {r q : α} (h : Ev g r) (k : Ev g q) : r = q := by
  obtain ⟨K, hK⟩ := h
  obtain ⟨K', hK'⟩ := k
  have h1 := hK (max K K') (Nat.le_max_left _ _)
  rw [hK' (max K K') (Nat.le_max_right _ _)] at h1
  injection h1 with h1
  exact h1.symm

theorem w64 {x : Int} (h0 : -9223372036854775808 ≤ x) (h1 : x ≤ 9223372036854775807) : wrap64 x = x := by
  unfold wrap64
  omega
theorem w64n (n : Nat) (h : n ≤ 9223372036854775807) : wrap64 (n : Int) = n := w64 (by omega) (by omega)

theorem pow_le62 {n : Nat} (h : n ≤ 62) : 2 ^ n ≤ 4611686018427387904 := by
  have : 2 ^ n ≤ 2 ^ 62 := Nat.pow_le_pow_right (by decide) h
  simpa using this
theorem shl1 {n : Int} (h0 : 0 ≤ n) (h1 : n ≤ 62) : shl .i64 1 n = ((2 ^ n.toNat : Nat) : Int) := by
  unfold shl
  have hb : IntKind.i64.bits = 64 := rfl
  rw [hb, Nat.min_eq_left (by omega), IntKind.wrap_i64]
  have h2 := pow_le62 (n := n.toNat) (by omega)
  have h3 : ((2 : Int) ^ n.toNat) = ((2 ^ n.toNat : Nat) : Int) := by simp
  rw [Int.one_mul, h3]
  generalize 2 ^ n.toNat = p at h2
  omega
theorem shl1n {n : Nat} (h1 : n ≤ 62) : shl .i64 1 (n : Int) = ((2 ^ n : Nat) : Int) := by
  have := shl1 (n := (n : Int)) (by omega) (by omega)
  simpa using this
theorem shrn {x n : Nat} (h1 : n ≤ 64) : shr .i64 (x : Int) (n : Int) = ((x / 2 ^ n : Nat) : Int) := by
  unfold shr
  have hb : IntKind.i64.bits = 64 := rfl
  rw [hb, Nat.min_eq_left (by omega)]
  simp
theorem tmodn (x n : Nat) : Int.tmod (x : Int) (n : Int) = ((x % n : Nat) : Int) := by
  simp [Int.tmod]
theorem tdivn (x n : Nat) : Int.tdiv (x : Int) (n : Int) = ((x / n : Nat) : Int) := by
  simp [Int.tdiv]

theorem bits_i64 (op : BinOp) (x y : Nat) (hx : x < 9223372036854775808) (hy : y < 9223372036854775808) :
    (op = .and → Go.bits .and .i64 (x : Int) (y : Int) = ((x &&& y : Nat) : Int)) := by
  intro _
  have hw : ∀ n : Int, 0 ≤ n → n < 2 ^ 63 → IntKind.i64.wrap n = n := fun n h0 h1 => by
    have h1' : n < 9223372036854775808 := by simpa using h1
    rw [IntKind.wrap_i64]; omega
  exact (bits_nat .i64 63 (by decide) hw x y (by simpa using hx) (by simpa using hy)).1
theorem and64 (x y : Nat) (hx : x < 9223372036854775808) (hy : y < 9223372036854775808) : Go.bits .and .i64 (x : Int) (y : Int) = ((x &&& y : Nat) : Int) := bits_i64 .and x y hx hy rfl
theorem or64 (x y : Nat) (hx : x < 9223372036854775808) (hy : y < 9223372036854775808) : Go.bits .or .i64 (x : Int) (y : Int) = ((x ||| y : Nat) : Int) := by
  have hw : ∀ n : Int, 0 ≤ n → n < 2 ^ 63 → IntKind.i64.wrap n = n := fun n h0 h1 => by
    have h1' : n < 9223372036854775808 := by simpa using h1
    rw [IntKind.wrap_i64]; omega
  exact (bits_nat .i64 63 (by decide) hw x y (by simpa using hx) (by simpa using hy)).2
theorem xor64 (x y : Nat) (hx : x < 9223372036854775808) (hy : y < 9223372036854775808) : Go.bits .xor .i64 (x : Int) (y : Int) = ((x ^^^ y : Nat) : Int) := by
  have hx' : x % 2 ^ 64 = x := Nat.mod_eq_of_lt (Nat.lt_trans hx (by decide))
  have hy' : y % 2 ^ 64 = y := Nat.mod_eq_of_lt (Nat.lt_trans hy (by decide))
  have hb : IntKind.i64.bits = 64 := rfl
  have hlt : x ^^^ y < 2 ^ 63 := Nat.xor_lt_two_pow (by simpa using hx) (by simpa using hy)
  have hlt' : x ^^^ y < 9223372036854775808 := by simpa using hlt
  simp only [Go.bits, hb, BitVec.ofInt_natCast, BitVec.toNat_xor, BitVec.toNat_ofNat, hx', hy']
  rw [IntKind.wrap_i64]
  omega
theorem rd_get (l : List Int) (i : Nat) (h : i < l.length) : rd l (i : Int) = l[i] := by
  unfold rd
  simp [List.getD_eq_getElem?_getD, List.getElem?_eq_getElem h]

end Go.Proofs.Ytgchhheajngbfaa.Kit
