/- Several texts of this session in one file, in build order: Pt, Kit, DBits, Pf76, Pf44, Pf48, DCols, Pf54, Shelf, DOf, DSubs, DSubs2, DVisA, DPlain, DVis, Pf43, DHid, GTz, GSet, Pf81, Pop, HBits, Pf83, GPart. -/
import Derived.Test.YtglajokjiphafaaDoorProg
import Derived.Below
import Derived.Deep.Draws
import Derived.Deep.AppendLies
import Derived.Maps.AppendAt
import Derived.OwnWalk
import Derived.Laws.BytesArg
import Derived.Laws.MakeOwn
import Derived.Laws.OwnMore
import Derived.Deep.OwnRows
import Derived.Tactics
import Derived.Lib.ConvBytes
import Derived.Laws.Slices
import Derived.WalkKit
import Derived.KernelRfl
import Derived.RowKit3
import Derived.Deep.LoopGhost
import Derived.Deep.QuietTactic
import Derived.BigQuiet
import Derived.WideLaws
import Derived.Deep.DeepCutAuto
import Derived.Deep.CutBlock
import Derived.Deep.RegionHeld3
import Derived.Laws.Rows
import Derived.Lib.AppendStr
import Derived.ArgAppend
import Derived.Laws.IdiomCopy
import Derived.OrdersHeld
import Derived.Laws.BitsLemmas
import Derived.RowKit
import Derived.Test.YtglajokjiphafaaDoorWWords
import Derived.Test.YtglajokjiphafaaDoorWLast
import Derived.Test.YtglajokjiphafaaDoorWTab
import Derived.Test.YtglajokjiphafaaDoorWFour
import Derived.Test.YtglajokjiphafaaDoorWQPut
import Derived.Test.YtglajokjiphafaaDoorWApart
import Derived.Test.YtglajokjiphafaaDoorWArr
import Derived.Test.YtglajokjiphafaaDoorWZeros
import Derived.Test.YtglajokjiphafaaDoorWFoot
import Derived.Test.YtglajokjiphafaaDoorWKept
import Derived.Test.YtglajokjiphafaaDoorWShare
import Derived.Test.YtglajokjiphafaaDoorWN
import Derived.Test.YtglajokjiphafaaDoorWFootNe
import Derived.Test.YtglajokjiphafaaDoorWAt
import Derived.Test.YtglajokjiphafaaDoorWEqStruct
import Derived.Test.YtglajokjiphafaaDoorWRepsOne
import Derived.Test.YtglajokjiphafaaDoorWInv
import Derived.Test.YtglajokjiphafaaDoorWInvWords
import Derived.Test.YtglajokjiphafaaDoorWGuard
import Derived.Test.YtglajokjiphafaaDoorWNEv
import Derived.Test.YtglajokjiphafaaDoorWMore
import Derived.Laws.Entries
import Derived.Shelf.Lay
import Derived.Shelf.LaySoft
import Derived.Shelf.Small.Bits
import Derived.Shelf.Small.Wraps
import Derived.Shelf.Strconv.Itoa0
import Derived.Shelf.Sort.Plain
import Derived.Shelf.Slices.Turned
import Derived.Ground.Names2Prog
import Derived.Shelf.Slices.Clone
import Derived.Shelf.Slices.CompactI
import Derived.Shelf.Slices.SearchI
import Derived.Shelf.Slices.Cells
import Derived.Shelf.Slices.In.SortNone
import Derived.Ground.SlgnProg
import Derived.Shelf.SlicesE.Compact
import Derived.Shelf.SlicesE.Clone
import Derived.Ground.SlgfProg
import Derived.Shelf.SlicesE.IndexFunc
import Derived.Shelf.SlicesE.DeleteFunc
import Derived.Laws.NewBlocks
import Derived.Deep.RegionLawGrows
import Derived.Laws.EntriesVeiled
import Derived.Deep.DeepMust
import Derived.Outline
import Derived.Shelf.Spec.TrailingZeros
import Derived.Laws.Bits64b
import Derived.Lib.TrailingZeros
import Derived.Lib.BitFns
namespace Go.Proofs.YtglajokjiphafaaDoor.P
open Go.RowKit Go.Proofs.YtglajokjiphafaaDoorW.PrintWords Go.Proofs.YtglajokjiphafaaDoorW.PrintLast Go.Proofs.YtglajokjiphafaaDoorW.PrintMore
attribute [local go_sem] max2_int min2_int max_two min_two max_three min_three max_four min_four   -- for this text's walks alone
set_option linter.unusedVariables false
set_option linter.unusedSimpArgs false



def errW : Option Int → Value
  | none => .nilIface
  | some c => .iface 0 (.int .i64 c)
theorem errW_none : errW none = .nilIface := rfl
theorem errW_some (c : Int) : errW (some c) = .iface 0 (.int .i64 c) := rfl

theorem info3 : (Tryd.prog.info? 3).map (fun i => (i.zero, i.size, i.bytes)) = some (some (.int .i64 0), 1, 8) := by kernel_rfl
theorem info4 : (Tryd.prog.info? 4).map (fun i => (i.zero, i.size, i.bytes)) = some (some (.bool false), 1, 1) := by kernel_rfl
theorem info25 : (Tryd.prog.info? 25).map (fun i => (i.zero, i.size, i.bytes)) = some (some (.slice none 0 0), 1, 24) := by kernel_rfl
theorem info70 : (Tryd.prog.info? 70).map (fun i => (i.zero, i.size, i.bytes)) = some (some (.int .u64 0), 1, 8) := by kernel_rfl
-- the values' own types
def rd_L1 (xs : List (List Int)) (i : Int) : (List Int) := xs.getD i.toNat ([] : List Int)
theorem at_L1 {w : World} {A : Option Addr} {n : Nat} {xs : List (List Int)} (h : Kd.C (Kd.slice 3 (Kd.int .i64)) w A n xs) (i : Int) (h0 : 0 ≤ i) (h1 : i < n) : ∃ ad A0 c0, A = some ad ∧ w.cell? (ad.add i.toNat) = some (.slice A0 (rd_L1 xs i).length c0) ∧ (rd_L1 xs i).length ≤ c0 ∧ (Kd.int .i64).C w A0 (rd_L1 xs i).length (rd_L1 xs i) := by
  obtain ⟨ad, c, e, _, hK, hc0⟩ := Kd.C_get h ([] : List Int) i h0 h1
  have hc : ∀ j u, c[j]? = some u → w.cell? (ad.add (i.toNat * 1 + j)) = some u := hc0
  obtain ⟨A0, c0, rfl, l0, g0⟩ := hK
  exact ⟨ad, A0, c0, e, by have hq := hc 0 _ rfl; rwa [Nat.mul_one, Nat.add_zero] at hq, l0, g0⟩

def rd_L4 (xs : List (List (List Int))) (i : Int) : (List (List Int)) := xs.getD i.toNat ([] : List (List Int))
theorem at_L4 {w : World} {A : Option Addr} {n : Nat} {xs : List (List (List Int))} (h : Kd.C (Kd.slice 25 (Kd.slice 3 (Kd.int .i64))) w A n xs) (i : Int) (h0 : 0 ≤ i) (h1 : i < n) : ∃ ad A0 c0, A = some ad ∧ w.cell? (ad.add i.toNat) = some (.slice A0 (rd_L4 xs i).length c0) ∧ (rd_L4 xs i).length ≤ c0 ∧ (Kd.slice 3 (Kd.int .i64)).C w A0 (rd_L4 xs i).length (rd_L4 xs i) := by
  obtain ⟨ad, c, e, _, hK, hc0⟩ := Kd.C_get h ([] : List (List Int)) i h0 h1
  have hc : ∀ j u, c[j]? = some u → w.cell? (ad.add (i.toNat * 1 + j)) = some u := hc0
  obtain ⟨A0, c0, rfl, l0, g0⟩ := hK
  exact ⟨ad, A0, c0, e, by have hq := hc 0 _ rfl; rwa [Nat.mul_one, Nat.add_zero] at hq, l0, g0⟩

def rd_L5 (xs : List (List Bool)) (i : Int) : (List Bool) := xs.getD i.toNat ([] : List Bool)
theorem at_L5 {w : World} {A : Option Addr} {n : Nat} {xs : List (List Bool)} (h : Kd.C (Kd.slice 4 Kd.bool) w A n xs) (i : Int) (h0 : 0 ≤ i) (h1 : i < n) : ∃ ad A0 c0, A = some ad ∧ w.cell? (ad.add i.toNat) = some (.slice A0 (rd_L5 xs i).length c0) ∧ (rd_L5 xs i).length ≤ c0 ∧ Kd.bool.C w A0 (rd_L5 xs i).length (rd_L5 xs i) := by
  obtain ⟨ad, c, e, _, hK, hc0⟩ := Kd.C_get h ([] : List Bool) i h0 h1
  have hc : ∀ j u, c[j]? = some u → w.cell? (ad.add (i.toNat * 1 + j)) = some u := hc0
  obtain ⟨A0, c0, rfl, l0, g0⟩ := hK
  exact ⟨ad, A0, c0, e, by have hq := hc 0 _ rfl; rwa [Nat.mul_one, Nat.add_zero] at hq, l0, g0⟩

theorem ne_own_len {A : Option Addr} {n m c c2 k : Nat} (h : some k ≠ (Value.slice A n c).ownBlock) : some k ≠ (Value.slice A m c2).ownBlock := by cases A <;> exact h
end Go.Proofs.YtglajokjiphafaaDoor.P

set_option linter.unusedSimpArgs false
set_option linter.unusedVariables false
namespace Go.Proofs.YtglajokjiphafaaDoor.Kit
open Go.RowKit Go.Proofs.YtglajokjiphafaaDoorW.PrintWords Go.Proofs.YtglajokjiphafaaDoorW.PrintMore

theorem Ev.pos {α : Type} {c : Prop} [Decidable c] {f g : Nat → Option α} {r : α} (h : c) (k : Ev f r) : Ev (fun n => if c then f n else g n) r := by
  obtain ⟨K, hK⟩ := k
  exact ⟨K, fun n hn => by show (if c then f n else g n) = some r; rw [if_pos h]; exact hK n hn⟩
theorem Ev.neg {α : Type} {c : Prop} [Decidable c] {f g : Nat → Option α} {r : α} (h : ¬ c) (k : Ev g r) : Ev (fun n => if c then f n else g n) r := by
  obtain ⟨K, hK⟩ := k
  exact ⟨K, fun n hn => by show (if c then f n else g n) = some r; rw [if_neg h]; exact hK n hn⟩
theorem Ev.bnd {α β : Type} {g : Nat → Option α} {f : Nat → α → Option β} {a : α} {r : β} (h : Ev g a) (k : Ev (fun n => f n a) r) : Ev (fun n => (g n).bind (fun t => f n t)) r := Ev.bind h k
theorem Ev.sbind {α β : Type} {f : Nat → α → Option β} {a : α} {r : β} (k : Ev (fun n => f n a) r) : Ev (fun n => (some a).bind (fun t => f n t)) r := k
theorem Ev.ret {α : Type} {a r : α} (h : a = r) : Ev (fun _ => some a) r := ⟨0, fun _ _ => by rw [h]⟩
theorem Ev.at {α : Type} {g : Nat → Option α} {r : α} (K : Nat) (h : ∀ k, K ≤ k → g k = some r) : Ev g r := ⟨K, h⟩
/-- Of two that hold of one function the answers are one. -/
theorem Ev.uniq {α : Type} {g : Nat → Option α} {r q : α} (h : Ev g r) (k : Ev g q) : r = q := by
  obtain ⟨K, hK⟩ := h
  obtain ⟨K', hK'⟩ := k
  have h1 := hK (max K K') (Nat.le_max_left _ _)
  rw [hK' (max K K') (Nat.le_max_right _ _)] at h1
  injection h1 with h1
  exact h1.symm

theorem w64 {x : Int} (h0 : -9223372036854775808 ≤ x) (h1 : x ≤ 9223372036854775807) : wrap64 x = x := by
  unfold wrap64
  omega
theorem w64n (n : Nat) (h : n ≤ 9223372036854775807) : wrap64 (n : Int) = n := w64 (by omega) (by omega)

theorem pow_le62 {n : Nat} (h : n ≤ 62) : 2 ^ n ≤ 4611686018427387904 := by
  have : 2 ^ n ≤ 2 ^ 62 := Nat.pow_le_pow_right (by decide) h
  simpa using this
theorem shl1 {n : Int} (h0 : 0 ≤ n) (h1 : n ≤ 62) : shl .i64 1 n = ((2 ^ n.toNat : Nat) : Int) := by
  unfold shl
  have hb : IntKind.i64.bits = 64 := rfl
  rw [hb, Nat.min_eq_left (by omega), IntKind.wrap_i64]
  have h2 := pow_le62 (n := n.toNat) (by omega)
  have h3 : ((2 : Int) ^ n.toNat) = ((2 ^ n.toNat : Nat) : Int) := by simp
  rw [Int.one_mul, h3]
  generalize 2 ^ n.toNat = p at h2
  omega
theorem shl1n {n : Nat} (h1 : n ≤ 62) : shl .i64 1 (n : Int) = ((2 ^ n : Nat) : Int) := by
  have := shl1 (n := (n : Int)) (by omega) (by omega)
  simpa using this
theorem shrn {x n : Nat} (h1 : n ≤ 64) : shr .i64 (x : Int) (n : Int) = ((x / 2 ^ n : Nat) : Int) := by
  unfold shr
  have hb : IntKind.i64.bits = 64 := rfl
  rw [hb, Nat.min_eq_left (by omega)]
  simp
theorem tmodn (x n : Nat) : Int.tmod (x : Int) (n : Int) = ((x % n : Nat) : Int) := by
  simp [Int.tmod]
theorem tdivn (x n : Nat) : Int.tdiv (x : Int) (n : Int) = ((x / n : Nat) : Int) := by
  simp [Int.tdiv]

theorem bits_i64 (op : BinOp) (x y : Nat) (hx : x < 9223372036854775808) (hy : y < 9223372036854775808) :
    (op = .and → Go.bits .and .i64 (x : Int) (y : Int) = ((x &&& y : Nat) : Int)) := by
  intro _
  have hw : ∀ n : Int, 0 ≤ n → n < 2 ^ 63 → IntKind.i64.wrap n = n := fun n h0 h1 => by
    have h1' : n < 9223372036854775808 := by simpa using h1
    rw [IntKind.wrap_i64]; omega
  exact (bits_nat .i64 63 (by decide) hw x y (by simpa using hx) (by simpa using hy)).1
theorem and64 (x y : Nat) (hx : x < 9223372036854775808) (hy : y < 9223372036854775808) : Go.bits .and .i64 (x : Int) (y : Int) = ((x &&& y : Nat) : Int) := bits_i64 .and x y hx hy rfl
theorem or64 (x y : Nat) (hx : x < 9223372036854775808) (hy : y < 9223372036854775808) : Go.bits .or .i64 (x : Int) (y : Int) = ((x ||| y : Nat) : Int) := by
  have hw : ∀ n : Int, 0 ≤ n → n < 2 ^ 63 → IntKind.i64.wrap n = n := fun n h0 h1 => by
    have h1' : n < 9223372036854775808 := by simpa using h1
    rw [IntKind.wrap_i64]; omega
  exact (bits_nat .i64 63 (by decide) hw x y (by simpa using hx) (by simpa using hy)).2
theorem xor64 (x y : Nat) (hx : x < 9223372036854775808) (hy : y < 9223372036854775808) : Go.bits .xor .i64 (x : Int) (y : Int) = ((x ^^^ y : Nat) : Int) := by
  have hx' : x % 2 ^ 64 = x := Nat.mod_eq_of_lt (Nat.lt_trans hx (by decide))
  have hy' : y % 2 ^ 64 = y := Nat.mod_eq_of_lt (Nat.lt_trans hy (by decide))
  have hb : IntKind.i64.bits = 64 := rfl
  have hlt : x ^^^ y < 2 ^ 63 := Nat.xor_lt_two_pow (by simpa using hx) (by simpa using hy)
  have hlt' : x ^^^ y < 9223372036854775808 := by simpa using hlt
  simp only [Go.bits, hb, BitVec.ofInt_natCast, BitVec.toNat_xor, BitVec.toNat_ofNat, hx', hy']
  rw [IntKind.wrap_i64]
  omega
theorem rd_get (l : List Int) (i : Nat) (h : i < l.length) : rd l (i : Int) = l[i] := by
  unfold rd
  simp [List.getD_eq_getElem?_getD, List.getElem?_eq_getElem h]

end Go.Proofs.YtglajokjiphafaaDoor.Kit

set_option linter.unusedSimpArgs false
set_option linter.unusedVariables false
namespace Go.Proofs.YtglajokjiphafaaDoor.P
open Go.Lib Go.RowKit Go.Proofs.YtglajokjiphafaaDoorW.PrintWords Go.Proofs.YtglajokjiphafaaDoorW.PrintLast Go.Proofs.YtglajokjiphafaaDoorW.PrintMore Go.Proofs.YtglajokjiphafaaDoor.Kit

theorem wrap1 {i : Nat} (h : i ≤ 9223372036854775806) : wrap64 ((i : Int) + 1) = ((i + 1 : Nat) : Int) := by rw [w64 (by omega) (by omega)]; omega
theorem u64w0 {x : Nat} (h : x < 18446744073709551616) : IntKind.u64.wrap (x : Int) = (x : Int) := by
  rw [IntKind.wrap_u64]; omega
theorem u64hw : ∀ n : Int, 0 ≤ n → n < 2 ^ 64 → IntKind.u64.wrap n = n := fun n h0 h1 => by
  have h1' : n < 18446744073709551616 := by simpa using h1
  rw [IntKind.wrap_u64]; omega
theorem oru (x y : Nat) (hx : x < 18446744073709551616) (hy : y < 18446744073709551616) : Go.bits .or .u64 (x : Int) (y : Int) = ((x ||| y : Nat) : Int) :=
  (bits_nat .u64 64 (by decide) u64hw x y (by simpa using hx) (by simpa using hy)).2
theorem andu (x y : Nat) (hx : x < 18446744073709551616) (hy : y < 18446744073709551616) : Go.bits .and .u64 (x : Int) (y : Int) = ((x &&& y : Nat) : Int) :=
  (bits_nat .u64 64 (by decide) u64hw x y (by simpa using hx) (by simpa using hy)).1
/-- Those of x that are not in y. -/
def andn (x y : Nat) : Nat := x ^^^ (x &&& y)
theorem testBit_andn (x y i : Nat) : (andn x y).testBit i = (x.testBit i && !y.testBit i) := by
  unfold andn
  rw [Nat.testBit_xor, Nat.testBit_and]
  cases x.testBit i <;> cases y.testBit i <;> rfl
theorem andnu (x y : Nat) (hx : x < 18446744073709551616) (hy : y < 18446744073709551616) : Go.bits .andNot .u64 (x : Int) (y : Int) = ((andn x y : Nat) : Int) := by
  have hx' : x < 2 ^ 64 := by simpa using hx
  have hy' : y < 2 ^ 64 := by simpa using hy
  have hb : IntKind.u64.bits = 64 := rfl
  have he : ((BitVec.ofNat 64 x) &&& ~~~(BitVec.ofNat 64 y)).toNat = andn x y := by
    refine Nat.eq_of_testBit_eq fun i => ?_
    rw [testBit_andn, BitVec.toNat_and, Nat.testBit_and, BitVec.toNat_ofNat, Nat.mod_eq_of_lt hx']
    by_cases hi : i < 64
    · have h1 : ((~~~(BitVec.ofNat 64 y)).toNat).testBit i = !(y.testBit i) := by
        rw [BitVec.testBit_toNat, BitVec.getLsbD_not, ← BitVec.testBit_toNat, BitVec.toNat_ofNat, Nat.mod_eq_of_lt hy']
        simp [hi]
      rw [h1]
    · have h1 : x.testBit i = false := Nat.testBit_lt_two_pow (Nat.lt_of_lt_of_le hx' (Nat.pow_le_pow_right (by decide) (by omega)))
      rw [h1]; rfl
  have hlt : andn x y < 2 ^ 64 := Nat.xor_lt_two_pow hx' (Nat.and_lt_two_pow _ hy')
  simp only [Go.bits, BitVec.ofInt_natCast]
  rw [show (BitVec.ofNat IntKind.u64.bits x &&& ~~~BitVec.ofNat IntKind.u64.bits y).toNat = andn x y from he]
  exact u64w0 (by simpa using hlt)
theorem shlu {n : Nat} (h : n ≤ 63) : shl .u64 1 (n : Int) = ((2 ^ n : Nat) : Int) := by
  unfold shl
  have hb : IntKind.u64.bits = 64 := rfl
  rw [hb, Int.toNat_natCast, Nat.min_eq_left (by omega), Int.one_mul]
  have h2 : 2 ^ n ≤ 2 ^ 63 := Nat.pow_le_pow_right (by decide) h
  have h3 : ((2 : Int) ^ n) = ((2 ^ n : Nat) : Int) := by simp
  rw [h3]
  refine u64w0 ?_
  have : (2 : Nat) ^ 63 = 9223372036854775808 := rfl
  omega
/-- The tests of a design in which a tube is, as bits. -/
def fam (t : Int) : List (List Int) → Nat
  | [] => 0
  | r :: d => (if r.contains t = true then 1 else 0) + 2 * fam t d
theorem testBit_fam (t : Int) : ∀ (d : List (List Int)) (i : Nat), (fam t d).testBit i = (d.getD i []).contains t
  | [], i => by simp [fam]
  | r :: d, 0 => by
    simp only [fam, List.getD_cons_zero]
    rw [Nat.testBit_zero]
    cases r.contains t <;> simp <;> omega
  | r :: d, i + 1 => by
    simp only [fam, List.getD_cons_succ]
    rw [← testBit_fam t d i, Nat.testBit_succ]
    congr 1
    split <;> omega
theorem fam_lt (t : Int) : ∀ d : List (List Int), fam t d < 2 ^ d.length
  | [] => Nat.zero_lt_one
  | r :: d => by
    have := fam_lt t d
    simp only [fam, List.length_cons, Nat.pow_succ]
    split <;> omega
theorem fam_lt64 (t : Int) {d : List (List Int)} (h : d.length ≤ 64) : fam t d < 18446744073709551616 := by
  have h1 := fam_lt t d
  have h2 : 2 ^ d.length ≤ 2 ^ 64 := Nat.pow_le_pow_right (by decide) h
  have h3 : (2 : Nat) ^ 64 = 18446744073709551616 := rfl
  omega
theorem getD_past {α : Type} (l : List α) (i : Nat) (z : α) (h : l.length ≤ i) : l.getD i z = z := by
  rw [List.getD_eq_getElem?_getD, List.getElem?_eq_none h]; rfl
theorem fam_snoc (t : Int) (d : List (List Int)) (r : List Int) : fam t (d ++ [r]) = fam t d ||| (if r.contains t = true then 2 ^ d.length else 0) := by
  refine Nat.eq_of_testBit_eq fun i => ?_
  rw [Nat.testBit_or, testBit_fam, testBit_fam]
  have hq : ∀ _ : i ≠ d.length, (if r.contains t = true then 2 ^ d.length else 0).testBit i = false := by
    intro h
    split
    · rw [Nat.testBit_two_pow]; simp; omega
    · simp
  rcases Nat.lt_trichotomy i d.length with h | h | h
  · rw [show (d ++ [r]).getD i [] = d.getD i [] by simp [List.getD_eq_getElem?_getD, List.getElem?_append_left h], hq (by omega), Bool.or_false]
  · subst h
    rw [show (d ++ [r]).getD d.length [] = r by simp [List.getD_eq_getElem?_getD], getD_past d _ _ (Nat.le_refl _)]
    cases r.contains t <;> simp [Nat.testBit_two_pow]
  · rw [getD_past (d ++ [r]) i [] (by rw [List.length_append]; exact h), getD_past d i [] (Nat.le_of_lt h), hq (by omega)]; rfl
/-- The families of all tubes. -/
def colsOf (n : Nat) (d : List (List Int)) : List Int := (List.range n).map fun (t : Nat) => (fam (t : Int) d : Int)
theorem colsOf_length (n : Nat) (d : List (List Int)) : (colsOf n d).length = n := by simp [colsOf]
theorem rd_colsOf (n : Nat) (d : List (List Int)) (t : Nat) (h : t < n) : rd (colsOf n d) (t : Int) = (fam (t : Int) d : Int) := by
  rw [rd_get _ _ (by rw [colsOf_length]; exact h)]
  simp [colsOf]
/-- The tests that are dark, of faulty tubes. -/
def darkN (d : List (List Int)) : List Int → Nat
  | [] => 0
  | t :: l => fam t d ||| darkN d l
theorem testBit_darkN (d : List (List Int)) (i : Nat) : ∀ l, (darkN d l).testBit i = l.any fun t => (d.getD i []).contains t
  | [] => by simp [darkN]
  | t :: l => by rw [darkN, Nat.testBit_or, testBit_fam, testBit_darkN d i l, List.any_cons]
theorem darkN_lt64 {d : List (List Int)} (h : d.length ≤ 64) : ∀ l, darkN d l < 18446744073709551616
  | [] => by simp [darkN]
  | t :: l => by
    have h1 := darkN_lt64 h l
    have h2 := fam_lt64 t h
    have := Nat.or_lt_two_pow (n := 64) (by simpa using h2) (by simpa using h1)
    simpa [darkN] using this
theorem darkN_append (d : List (List Int)) (a b : List Int) : darkN d (a ++ b) = darkN d a ||| darkN d b := by
  induction a with
  | nil => simp [darkN]
  | cons x a ih => rw [List.cons_append, darkN, darkN, ih, Nat.or_assoc]
end Go.Proofs.YtglajokjiphafaaDoor.P

namespace Go.Proofs.YtglajokjiphafaaDoor.P
open Go.RowKit Go.Proofs.YtglajokjiphafaaDoorW.PrintWords Go.Proofs.YtglajokjiphafaaDoorW.PrintLast Go.Proofs.YtglajokjiphafaaDoorW.PrintMore
attribute [local go_sem] max2_int min2_int max_two min_two max_three min_three max_four min_four   -- for this text's walks alone
set_option linter.unusedVariables false
set_option linter.unusedSimpArgs false

/-! ### find_family: function 76 -/
def find_family.f (a0 : Int) (a1 : Int) : Option (Int) := if 0 ≤ a1 then (some (Go.bits .or .u64 a0 (shl .u64 1 a1))) else (none)
set_option maxHeartbeats 8000000 in
set_option maxRecDepth 100000 in
theorem find_family.calls (a0 : Int) (a1 : Int) (r : Int) (w : World) (h : find_family.f a0 a1 = some r) :
    Calls Tryd.prog 76 #[.int .u64 a0, .int .i64 a1] w fun e w' => e = .returned (.int .u64 r) ∧ Drawn0 w w' := by
  have H : (if 0 ≤ a1 then (some (Go.bits .or .u64 a0 (shl .u64 1 a1))) else (none)) = some r := h
  clear h
  by_cases c3 : 0 ≤ a1
  · rw [if_pos c3] at H
    have c3b0 := eq_true c3
    have c3b1 : decide (0 ≤ a1) = true := decide_eq_true c3
    clear c3
    obtain ⟨ji4, hji4⟩ : ∃ j_ : Int, (shl .u64 1 a1) = j_ := ⟨_, rfl⟩
    replace H : (some (Go.bits .or .u64 a0 (ji4))) = some r := by first | (rw [hji4] at H; exact H) | (simp only [hji4] at H ⊢; exact H)
    have hji4_ : (IntKind.u64.wrap (1 * 2 ^ min a1.toNat 64)) = ji4 := hji4
    have hji4z : a1 ≤ 64 → (IntKind.u64.wrap (1 * 2 ^ a1.toNat)) = ji4 := shl_small hji4
    have hji4u : (IntKind.u64.wrap (2 ^ min a1.toNat 64)) = ji4 := by have h_ := hji4_; rw [Int.one_mul] at h_; exact h_
    have hji4v : a1 ≤ 64 → (IntKind.u64.wrap (2 ^ a1.toNat)) = ji4 := fun hle_ => by have h_ := hji4z hle_; rw [Int.one_mul] at h_; exact h_
    obtain rfl := Option.some.inj H
    go_enter Tryd.func76, Tryd.ntmps76
    go_wp2
    go_ret
    exact ⟨by first | rfl | (simp; done) | (simp only [← hji4] <;> (first | rfl | simp)) | (simp [*]; done), by repeat (first | exact Drawn0.refl _ | apply Drawn0.step)⟩
  · rw [if_neg c3] at H
    exact absurd H (by simp)

end Go.Proofs.YtglajokjiphafaaDoor.P

namespace Go.Proofs.YtglajokjiphafaaDoor.P
open Go.RowKit Go.Proofs.YtglajokjiphafaaDoorW.PrintWords Go.Proofs.YtglajokjiphafaaDoorW.PrintLast Go.Proofs.YtglajokjiphafaaDoorW.PrintMore
attribute [local go_sem] max2_int min2_int max_two min_two max_three min_three max_four min_four   -- for this text's walks alone
set_option linter.unusedVariables false
set_option linter.unusedSimpArgs false

/-- A state of type 98 at block g of W; what its slices lead to came in by w0. -/
def IsS98 (w0 W : World) (g : Nat) (f0 : Int) (f1 : List (List Int)) : Prop := ∃ A1 c1, W.heap[g]? = some (.cells #[.int .i64 f0, .slice A1 f1.length c1] 98 (0, 0)) ∧ w0.heap.size ≤ g ∧ Kd.C (Kd.slice 3 (Kd.int .i64)) w0 A1 f1.length f1
theorem IsS98.grown {w0 W : World} {g : Nat} {f0 : Int} {f1 : List (List Int)} {W1 : World} {row : Option Nat} (h : IsS98 w0 W g f0 f1) (hw : W.grownBy W1 row) (hne : some g ≠ row) : IsS98 w0 W1 g f0 f1 := by
  obtain ⟨A1, c1, hb, hg, hr1⟩ := h
  exact ⟨A1, c1, blk_grown hb hw hne, hg, hr1⟩
theorem IsS98.own_neN {w0 W : World} {g : Nat} {f0 : Int} {f1 : List (List Int)} {α : Type} {d : Kd α} {e : Nat} {base : Nat} {ok : Nat → Prop} {v : Value} {xs : List α} (h : IsS98 w0 W g f0 f1) (ho : Kd.N d e W base ok v xs) (ht : e ≠ 98) : some g ≠ v.ownBlock := by
  obtain ⟨A1, c1, hb, hg, hr1⟩ := h
  exact Kd.N_ne ho hb ht
theorem IsS98.fresh {w0 W : World} {g : Nat} {f0 : Int} {f1 : List (List Int)} (h : IsS98 w0 W g f0 f1) : ∀ k, W.heap.size ≤ k → k ≠ g := by
  obtain ⟨A1, c1, hb, hg, hr1⟩ := h
  exact Kd.freshB hb
theorem IsS98.kept {w0 W : World} {g : Nat} {f0 : Int} {f1 : List (List Int)} {W1 : World} {S : Nat → Prop} (h : IsS98 w0 W g f0 f1) (hk : Kept W W1 S) (hne : ¬ S g) : IsS98 w0 W1 g f0 f1 := by
  obtain ⟨A1, c1, hb, hg, hr1⟩ := h
  exact ⟨A1, c1, blk_kept hb hk hne, hg, hr1⟩
theorem IsS98.below {w0 W : World} {g : Nat} {f0 : Int} {f1 : List (List Int)} {W1 : World} (h : IsS98 w0 W g f0 f1) (hw : Below W.heap.size W W1) : IsS98 w0 W1 g f0 f1 := h.grown (grown_of_below hw none) (by simp)
theorem IsS98.alloc {w0 W : World} {g : Nat} {f0 : Int} {f1 : List (List Int)} (h : IsS98 w0 W g f0 f1) (o : Obj) : IsS98 w0 (W.alloc o) g f0 f1 := h.below (below_alloc (Below.refl _ _) o)
theorem IsS98.drewN {w0 W : World} {g : Nat} {f0 : Int} {f1 : List (List Int)} (h : IsS98 w0 W g f0 f1) (m : Nat) : IsS98 w0 (W.drewN m) g f0 f1 := h
theorem IsS98.drew {w0 W : World} {g : Nat} {f0 : Int} {f1 : List (List Int)} (h : IsS98 w0 W g f0 f1) : IsS98 w0 W.drew g f0 f1 := h
theorem IsS98.at_ {w0 W : World} {g : Nat} {f0 : Int} {f1 : List (List Int)} {w' : World} {m : Nat} (hq : W.drewN m = w') (h : IsS98 w0 W g f0 f1) : IsS98 w0 w' g f0 f1 := by subst hq; exact IsS98.drewN h m
theorem IsS98.apart {w0 W : World} {g : Nat} {f0 : Int} {f1 : List (List Int)} {α : Type} {d : Kd α} {e : Nat} {base : Nat} {ok : Nat → Prop} {v : Value} {xs : List α} (h : IsS98 w0 W g f0 f1) (ho : d.R e W base ok v xs) (ht : ∀ q, q ∈ e :: d.E → q ≠ 98) : d.R e W base (fun k => ok k ∧ k ≠ g) v xs := by
  obtain ⟨A1, c1, hb, hg, hr1⟩ := h
  exact Kd.R_types ho hb ht
theorem IsS98.own_ne {w0 W : World} {g : Nat} {f0 : Int} {f1 : List (List Int)} {α : Type} {d : Kd α} {e : Nat} {base : Nat} {ok : Nat → Prop} {v : Value} {xs : List α} (h : IsS98 w0 W g f0 f1) (ho : d.R e W base ok v xs) (ht : e ≠ 98) : some g ≠ v.ownBlock := by
  obtain ⟨A1, c1, hb, hg, hr1⟩ := h
  exact Kd.R_ne ho hb ht
theorem IsS98.apartQ {w0 W : World} {g : Nat} {f0 : Int} {f1 : List (List Int)} {α : Type} {d : Kd α} {e : Nat} {base : Nat} {ok : Nat → Prop} {v : Value} {xs : List α} (h : IsS98 w0 W g f0 f1) (ho : d.Q e W base ok v xs) (ht : ∀ q, q ∈ e :: d.E → q ≠ 98) : d.Q e W base (fun k => ok k ∧ k ≠ g) v xs := by
  obtain ⟨A1, c1, hb, hg, hr1⟩ := h
  exact Kd.Q_types ho hb ht
theorem IsS98.own_neQ {w0 W : World} {g : Nat} {f0 : Int} {f1 : List (List Int)} {α : Type} {d : Kd α} {e : Nat} {base : Nat} {ok : Nat → Prop} {v : Value} {xs : List α} (h : IsS98 w0 W g f0 f1) (ho : d.Q e W base ok v xs) (ht : e ≠ 98) : some g ≠ v.ownBlock := by
  obtain ⟨A1, c1, hb, hg, hr1⟩ := h
  exact Kd.Q_ne ho hb ht
theorem IsS98.apartS {w0 W : World} {g : Nat} {f0 : Int} {f1 : List (List Int)} {α : Type} {d : Kd α} {e : Nat} {base : Nat} {ok : Nat → Prop} {v : Value} {xs : List α} (h : IsS98 w0 W g f0 f1) (ho : d.S e W base ok v xs) (ht : ∀ q, q ∈ e :: d.E → q ≠ 98) : d.S e W base (fun k => ok k ∧ k ≠ g) v xs := by
  obtain ⟨A1, c1, hb, hg, hr1⟩ := h
  exact Kd.S_types ho hb ht
theorem IsS98.own_neS {w0 W : World} {g : Nat} {f0 : Int} {f1 : List (List Int)} {α : Type} {d : Kd α} {e : Nat} {base : Nat} {ok : Nat → Prop} {v : Value} {xs : List α} (h : IsS98 w0 W g f0 f1) (ho : d.S e W base ok v xs) (ht : e ≠ 98) : some g ≠ v.ownBlock := by
  obtain ⟨A1, c1, hb, hg, hr1⟩ := h
  exact Kd.S_ne ho hb ht
theorem IsS98.lt {w0 W : World} {g : Nat} {f0 : Int} {f1 : List (List Int)} (h : IsS98 w0 W g f0 f1) : g < W.heap.size := by
  obtain ⟨A1, c1, hb, hg, hr1⟩ := h
  exact blk_lt hb
theorem IsS98.ge {w0 W : World} {g : Nat} {f0 : Int} {f1 : List (List Int)} (h : IsS98 w0 W g f0 f1) : w0.heap.size ≤ g := by
  obtain ⟨A1, c1, hb, hg, hr1⟩ := h
  exact hg
theorem IsS98.ne_blk {w0 W : World} {g : Nat} {f0 : Int} {f1 : List (List Int)} {a : Nat} {cs : Array Value} {t : TypeId} {fr : Nat × Nat} (h : IsS98 w0 W g f0 f1) (hb2 : W.heap[a]? = some (.cells cs t fr)) (ht : t ≠ 98) : g ≠ a := by
  obtain ⟨A1, c1, hb, hg, hr1⟩ := h
  rintro rfl
  rw [hb] at hb2
  injection hb2 with hb2
  injection hb2 with _ ht2
  exact ht ht2.symm
theorem IsS98.far {w0 W : World} {g : Nat} {f0 : Int} {f1 : List (List Int)} {p : Addr} (h : IsS98 w0 W g f0 f1) (hne : g ≠ p.block) (u : Value) : IsS98 w0 (W.setCell p u) g f0 f1 := by
  obtain ⟨A1, c1, hb, hg, hr1⟩ := h
  exact ⟨A1, c1, blk_far hb hne u, hg, hr1⟩
theorem cellS98_0 {W : World} {g : Nat} {A1 : Option Addr} {c1 : Nat} {f0 : Int} {f1 : List (List Int)} (h : W.heap[g]? = some (.cells #[.int .i64 f0, .slice A1 f1.length c1] 98 (0, 0))) : W.cell? ⟨g, 0, none⟩ = some (.int .i64 f0) := (blk_cell h 0).trans rfl
theorem IsS98.set_0 {w0 W : World} {g : Nat} {f0 : Int} {f1 : List (List Int)} (h : IsS98 w0 W g f0 f1) (x : Int) : IsS98 w0 (W.setCell ⟨g, 0, none⟩ (.int .i64 x)) g x f1 := by
  obtain ⟨A1, c1, hb, hg, hr1⟩ := h
  exact ⟨A1, c1, by simpa using blk_set hb 0 (.int .i64 x), hg, hr1⟩
theorem cellS98_1 {W : World} {g : Nat} {A1 : Option Addr} {c1 : Nat} {f0 : Int} {f1 : List (List Int)} (h : W.heap[g]? = some (.cells #[.int .i64 f0, .slice A1 f1.length c1] 98 (0, 0))) : W.cell? ⟨g, 1, none⟩ = some (.slice A1 f1.length c1) := (blk_cell h 1).trans rfl
theorem IsS98.new (w0 W : World) (A1 : Option Addr) (c1 : Nat) (f0 : Int) (f1 : List (List Int)) (hB : Below w0.heap.size w0 W) (hr1 : Kd.C (Kd.slice 3 (Kd.int .i64)) w0 A1 f1.length f1) : IsS98 w0 (W.alloc (.cells #[.int .i64 f0, .slice A1 f1.length c1] 98)) W.heap.size f0 f1 := ⟨A1, c1, by simpa using heap_alloc_new W _, hB.size, hr1⟩

/-! ### find_design_columns: function 44 -/
mutual
def find_design_columns.l0 : Nat → List Int → List (List Int) → Int → Int → Int → List (List Int) → Option (List Int × Int)
  | 0, _, _, _, _, _, _ => none
  | k + 1, x3, x16, x17, x18, x1000, x1001 => if x18 < x17 then (if 0 ≤ x18 then (if x18 < (x16.length : Int) then (find_design_columns.l1 k x3 x18 x16 x17 x18 (rd_L1 x16 x18) ((rd_L1 x16 x18).length : Int) 0 x1000 x1001) else (none)) else (none)) else (some (x3, x1000))
def find_design_columns.l1 : Nat → List Int → Int → List (List Int) → Int → Int → List Int → Int → Int → Int → List (List Int) → Option (List Int × Int)
  | 0, _, _, _, _, _, _, _, _, _, _ => none
  | k + 1, x3, x4, x16, x17, x18, x23, x24, x25, x1000, x1001 => if x25 < x24 then (if 0 ≤ x25 then (if x25 < (x23.length : Int) then (if 0 ≤ (rd x23 x25) then (if (rd x23 x25) < (x3.length : Int) then ((find_family.f (rd x3 (rd x23 x25)) x4).bind fun t107 => (find_design_columns.l1 k (x3.set ((rd x23 x25) : Int).toNat t107) x4 x16 x17 x18 x23 x24 (wrap64 (x25 + 1)) x1000 x1001)) else (none)) else (none)) else (none)) else (none)) else (find_design_columns.l0 k x3 x16 x17 (wrap64 (x18 + 1)) x1000 x1001)
end
def find_design_columns.f (k : Nat) (s0_0 : Int) (s0_1 : List (List Int)) : Option (List Int × Int) := if 0 ≤ s0_0 then (if (s0_0 : Int).toNat ≤ 35184372088832 then (find_design_columns.l0 k (List.replicate (s0_0 : Int).toNat 0) s0_1 (s0_1.length : Int) 0 s0_0 s0_1) else (none)) else (none)
theorem find_design_columns.mono_l : ∀ k, (∀ y0 y1 y2 y3 y4 y5, LeO (find_design_columns.l0 k y0 y1 y2 y3 y4 y5) (find_design_columns.l0 (k + 1) y0 y1 y2 y3 y4 y5)) ∧ (∀ y0 y1 y2 y3 y4 y5 y6 y7 y8 y9, LeO (find_design_columns.l1 k y0 y1 y2 y3 y4 y5 y6 y7 y8 y9) (find_design_columns.l1 (k + 1) y0 y1 y2 y3 y4 y5 y6 y7 y8 y9))
  | 0 => ⟨fun _ _ _ _ _ _ r h => by simp [find_design_columns.l0] at h, fun _ _ _ _ _ _ _ _ _ _ r h => by simp [find_design_columns.l1] at h⟩
  | k + 1 => by
    obtain ⟨ih0, ih1⟩ := find_design_columns.mono_l k
    refine ⟨?_, ?_⟩
    · intro y0 y1 y2 y3 y4 y5
      unfold find_design_columns.l0
      repeat' first
      | (with_reducible exact ih0 _ _ _ _ _ _)
      | (with_reducible exact ih1 _ _ _ _ _ _ _ _ _ _)
      | (with_reducible exact LeO.refl _)
      | (with_reducible exact LeO.none _)
      | (with_reducible refine LeO.ite ?_ ?_)
      | (with_reducible refine LeO.bind ?_ (fun _ => ?_))
      | exact ih0 _ _ _ _ _ _
      | exact ih1 _ _ _ _ _ _ _ _ _ _
      | exact LeO.none _
      | refine LeO.ite ?_ ?_
      | refine LeO.bind ?_ (fun _ => ?_)
    · intro y0 y1 y2 y3 y4 y5 y6 y7 y8 y9
      unfold find_design_columns.l1
      repeat' first
      | (with_reducible exact ih0 _ _ _ _ _ _)
      | (with_reducible exact ih1 _ _ _ _ _ _ _ _ _ _)
      | (with_reducible exact LeO.refl _)
      | (with_reducible exact LeO.none _)
      | (with_reducible refine LeO.ite ?_ ?_)
      | (with_reducible refine LeO.bind ?_ (fun _ => ?_))
      | exact ih0 _ _ _ _ _ _
      | exact ih1 _ _ _ _ _ _ _ _ _ _
      | exact LeO.none _
      | refine LeO.ite ?_ ?_
      | refine LeO.bind ?_ (fun _ => ?_)
theorem find_design_columns.mono : ∀ a0 a1 k, LeO (find_design_columns.f k a0 a1) (find_design_columns.f (k + 1) a0 a1) := by
  intro a0 a1 k
  obtain ⟨ih0, ih1⟩ := find_design_columns.mono_l k
  unfold find_design_columns.f
  repeat' first
      | (with_reducible exact ih0 _ _ _ _ _ _)
      | (with_reducible exact ih1 _ _ _ _ _ _ _ _ _ _)
      | (with_reducible exact LeO.refl _)
      | (with_reducible exact LeO.none _)
      | (with_reducible refine LeO.ite ?_ ?_)
      | (with_reducible refine LeO.bind ?_ (fun _ => ?_))
      | exact ih0 _ _ _ _ _ _
      | exact ih1 _ _ _ _ _ _ _ _ _ _
      | exact LeO.none _
      | refine LeO.ite ?_ ?_
      | refine LeO.bind ?_ (fun _ => ?_)
set_option maxHeartbeats 8000000 in
set_option maxRecDepth 100000 in
theorem find_design_columns.calls (k : Nat) (g : Nat) (s0_0 : Int) (s0_1 : List (List Int)) (r1 : List Int) (r2 : Int) (w0 w : World) (hI : IsS98 w0 w g s0_0 s0_1) (hB : Below w0.heap.size w0 w) (h : find_design_columns.f k s0_0 s0_1 = some (r1, r2)) :
    Calls Tryd.prog 44 #[.pointer (some ⟨g, 0, none⟩)] w fun e w' => ∃ v0_ : Value, e = .returned (v0_) ∧ Kd.R (Kd.int .u64) 70 w' w.heap.size (fun _ => True) v0_ r1 ∧ IsS98 w0 w' g r2 s0_1 ∧ Below w0.heap.size w0 w' ∧ KeepBut w w' g none := by
  have HI0 := Aside0.mk hI
  have HK := Aside0.mk (KeepBut.refl w g none)
  have HL := Aside0.mk hB.size
  clear hI
  have HW0 := Aside0.mk hB.size
  have HB := Aside0.mk hB
  clear hB
  have H : (if 0 ≤ s0_0 then (if (s0_0 : Int).toNat ≤ 35184372088832 then (find_design_columns.l0 k (List.replicate (s0_0 : Int).toNat 0) s0_1 (s0_1.length : Int) 0 s0_0 s0_1) else (none)) else (none)) = some (r1, r2) := h
  clear h
  by_cases c2 : 0 ≤ s0_0
  · rw [if_pos c2] at H
    have c2b0 := eq_true c2
    have c2b1 : decide (0 ≤ s0_0) = true := decide_eq_true c2
    clear c2
    by_cases c3 : (s0_0 : Int).toNat ≤ 35184372088832
    · rw [if_pos c3] at H
      have c3b0 := eq_true c3
      have c3b1 : decide ((s0_0 : Int).toNat ≤ 35184372088832) = true := decide_eq_true c3
      clear c3
      obtain ⟨y101, hy101⟩ : ∃ y_ : List Int, y_ = (List.replicate (s0_0 : Int).toNat 0) := ⟨_, rfl⟩
      replace H : (find_design_columns.l0 k y101 s0_1 (s0_1.length : Int) 0 s0_0 s0_1) = some (r1, r2) := by first | (rw [hy101]; with_reducible exact H) | (have H2_ := (Option.bind_some _ _).symm.trans H; rw [hy101]; with_reducible exact H2_) | (have H2_ := (Option.bind_some _ _).symm.trans H; with_reducible exact H2_) | with_reducible exact H | (rw [hy101]; exact H) | exact H
      have Ny101 := Aside0.mk hy101
      clear hy101
      have H' := Aside0.mk H
      clear H
      obtain ⟨ASz4_1, cSz4_1, HGz4, hgz4, HSz4_1⟩ := HI0.out
      have hcz4_0 := cellS98_0 HGz4
      have hcz4_1 := cellS98_1 HGz4
      have hfz4_0 := blk_frozen HGz4 0
      clear HGz4 hgz4
      go_enter Tryd.func44, Tryd.ntmps44
      go_wp2_with (first | ((with_reducible refine gate_dst (N := 12) rfl ?_); refine Kd.R_make (Kd.int .u64) _ 70 rfl (N := 12) rfl 65 _ _ rfl s0_0 rfl rfl Tryd.underlying65 (.int .u64 0) 8 info70 rfl (by decide) (by omega) 0 (ok := fun _ => True) (okp := fun _ => True) rfl (fun _ hk => hk) trivial (of_decide_eq_true (by first | (with_reducible assumption) | assumption)) (Nat.le_trans (Nat.mul_le_mul_right _ (of_decide_eq_true (by first | (with_reducible assumption) | assumption) : s0_0.toNat ≤ 35184372088832)) (by omega)) (Below.refl _ _) (Nat.le_refl _) ?_; intro v102 w5 ho6 hb hg_ hnew_; clear hg_ hnew_; (first | rw [← Ny101.out] at ho6 | (simp only [Int.reduceToNat] at ho6; rw [← Ny101.out] at ho6)); have n0_ := Aside0.mk (Kd.R_lower ho6 (keep_size (w := w) (g := g) (row := none) (by repeat (first | (with_reducible first | exact HK.out | apply KeepBut.set_ | apply keep_drewN | apply keep_drew | apply keep_alloc) | exact HK.out)))); have n1_ := Aside0.mk (IsS98.below (by repeat (first | (with_reducible first | exact HI0.out | apply IsS98.alloc | apply IsS98.drewN | apply IsS98.drew | apply IsS98.set_0) | exact HI0.out)) hb); have n2_ := Aside0.mk (KeepBut.trans (by repeat (first | (with_reducible first | exact HK.out | apply KeepBut.set_ | apply keep_drewN | apply keep_drew | apply keep_alloc) | exact HK.out)) (KeepBut.of_below hb g none) (.inl rfl)); have n3_ := Aside0.mk (below_step (by repeat (first | (with_reducible first | exact HB.out | apply below_alloc | apply pw_below_drewN | apply below_drew1 | refine below_set ?_ (IsS98.ge HI0.out)) | exact HB.out)) hb); clear HI0; clear HK; clear HB; have HO103 := n0_; have HI0 := n1_; have HK := n2_; have HB := n3_; clear n0_ n1_ n2_ n3_; clear hb ho6; obtain ⟨ASz7_1, cSz7_1, HGz7, hgz7, HSz7_1⟩ := HI0.out; have hcz7_0 := cellS98_0 HGz7; have hcz7_1 := cellS98_1 HGz7; have hfz7_0 := blk_frozen HGz7 0; clear HGz7 hgz7))
      go_loopg [18] k (fun kq v18 w' => ∃ (x3_1 : List Int) (x18_1 : Int), v18 = .int .i64 x18_1 ∧ Aside0 (find_design_columns.l0 kq x3_1 s0_1 (s0_1.length : Int) x18_1 s0_0 s0_1 = some (r1, r2)) ∧ Aside0 (kq ≤ k) ∧ Aside0 (Kd.R (Kd.int .u64) 70 w' w.heap.size (fun _ => True) v102 x3_1) ∧ Aside0 (IsS98 w0 w' g s0_0 s0_1) ∧ Aside0 (KeepBut w w' g none) ∧ Aside0 (Below w0.heap.size w0 w'))
      case atStart => exact ⟨(y101), (0), (by first | rfl | (simp; done) | (simp [*]; done)), H', ⟨Nat.le_refl _⟩, ⟨by (with_reducible repeat (first | apply Kd.R_alloc | apply Kd.R_drewN | apply Kd.R_drew)); first | exact HO103.out | exact Kd.R_mono HO103.out (fun k_ h_ => ne_own_len h_)⟩, ⟨by repeat (first | (with_reducible first | exact HI0.out | apply IsS98.alloc | apply IsS98.drewN | apply IsS98.drew | apply IsS98.set_0) | exact HI0.out)⟩, ⟨by repeat (first | (with_reducible first | exact HK.out | apply KeepBut.set_ | apply keep_drewN | apply keep_drew | apply keep_alloc) | exact HK.out)⟩, ⟨by repeat (first | (with_reducible first | exact HB.out | apply below_alloc | apply pw_below_drewN | apply below_drew1 | refine below_set ?_ (IsS98.ge HI0.out)) | exact HB.out)⟩⟩
      case round =>
        clear H'
        try clear c2
        try clear c2b0
        try clear c2b1
        try clear p2
        try clear c3
        try clear c3b0
        try clear c3b1
        try clear c4
        try clear hcz4_0
        try clear hcz4_1
        try clear hcz7_0
        try clear hcz7_1
        try clear hfz4_0
        try clear hfz7_0
        obtain ⟨x3_1, x18_1, rfl, HA, HK1, HO_3, HI0, HK, HB⟩ := hrel
        cases gk with
        | zero => exact absurd HA.out (by simp [find_design_columns.l0])
        | succ k1 =>
          have H := HA.out
          clear HA
          simp only [find_design_columns.l0] at H
          by_cases c8 : x18_1 < (s0_1.length : Int)
          · rw [if_pos c8] at H
            have c8b0 : decide (x18_1 < (s0_1.length : Int)) = true := decide_eq_true c8
            clear c8
            by_cases c9 : 0 ≤ x18_1
            · rw [if_pos c9] at H
              have c9b0 : decide (0 ≤ x18_1) = true := decide_eq_true c9
              clear c9
              by_cases c10 : x18_1 < (s0_1.length : Int)
              · rw [if_pos c10] at H
                have c10b0 : decide (x18_1 < (s0_1.length : Int)) = true := decide_eq_true c10
                clear c10
                have H' := Aside0.mk H
                clear H
                obtain ⟨ASz11_1, cSz11_1, HGz11, hgz11, HSz11_1⟩ := HI0.out
                have hcz11_0 := cellS98_0 HGz11
                have hcz11_1 := cellS98_1 HGz11
                have hfz11_0 := blk_frozen HGz11 0
                clear HGz11 hgz11
                have p104 : 0 ≤ (x18_1 : Int) := of_decide_eq_true (by first | (with_reducible assumption) | assumption)
                have q104 : x18_1 < (s0_1.length : Int) := of_decide_eq_true (by first | (with_reducible assumption) | assumption)
                obtain ⟨ad104, A104_0, c104_0, e104, hx104_0, hl104_0, hi104_0⟩ := at_L1 HSz7_1 x18_1 p104 q104
                cases e104
                replace hx104_0 := pw_cell_below HB.out hx104_0
                have HR104_0 := Aside0.mk hi104_0
                have HC104_0 := Aside0.mk hl104_0
                clear hi104_0 hl104_0
                replace p104 := eq_true p104
                replace q104 := eq_true q104
                go_wp2
                go_loopg [25] k1 (fun kq v25 w' => ∃ (x3_2 : List Int) (x25_2 : Int), v25 = .int .i64 x25_2 ∧ Aside0 (find_design_columns.l1 kq x3_2 x18_1 s0_1 (s0_1.length : Int) x18_1 (rd_L1 s0_1 x18_1) ((rd_L1 s0_1 x18_1).length : Int) x25_2 s0_0 s0_1 = some (r1, r2)) ∧ Aside0 (kq ≤ k1) ∧ Aside0 (Kd.R (Kd.int .u64) 70 w' w.heap.size (fun _ => True) v102 x3_2) ∧ Aside0 (IsS98 w0 w' g s0_0 s0_1) ∧ Aside0 (KeepBut w w' g none) ∧ Aside0 (Below w0.heap.size w0 w'))
                case atStart => exact ⟨(x3_1), (0), (by first | rfl | (simp; done) | (simp [*]; done)), H', ⟨Nat.le_refl _⟩, ⟨by (with_reducible repeat (first | apply Kd.R_alloc | apply Kd.R_drewN | apply Kd.R_drew)); first | exact HO_3.out | exact Kd.R_mono HO_3.out (fun k_ h_ => ne_own_len h_)⟩, ⟨by repeat (first | (with_reducible first | exact HI0.out | apply IsS98.alloc | apply IsS98.drewN | apply IsS98.drew | apply IsS98.set_0) | exact HI0.out)⟩, ⟨by repeat (first | (with_reducible first | exact HK.out | apply KeepBut.set_ | apply keep_drewN | apply keep_drew | apply keep_alloc) | exact HK.out)⟩, ⟨by repeat (first | (with_reducible first | exact HB.out | apply below_alloc | apply pw_below_drewN | apply below_drew1 | refine below_set ?_ (IsS98.ge HI0.out)) | exact HB.out)⟩⟩
                case round =>
                  clear H'
                  try clear c1
                  try clear p1
                  try clear q1
                  try clear hx1
                  try clear c2
                  try clear c2b0
                  try clear c2b1
                  try clear p2
                  try clear c3
                  try clear c3b0
                  try clear c3b1
                  try clear c4
                  try clear c8
                  try clear c8b0
                  try clear c9
                  try clear c9b0
                  try clear c10
                  try clear c10b0
                  try clear p10
                  try clear q10
                  try clear hx10
                  try clear hcz11_0
                  try clear hcz11_1
                  try clear hcz4_0
                  try clear hcz4_1
                  try clear hcz7_0
                  try clear hcz7_1
                  try clear hfz11_0
                  try clear hfz4_0
                  try clear hfz7_0
                  try clear hx104_0
                  try clear p104
                  try clear p2
                  try clear q104
                  obtain ⟨x3_2, x25_2, rfl, HA, HK2, HO_3, HI0, HK, HB⟩ := hrel
                  cases gk with
                  | zero => exact absurd HA.out (by simp [find_design_columns.l1])
                  | succ k2 =>
                    have H := HA.out
                    clear HA
                    simp only [find_design_columns.l1] at H
                    by_cases c12 : x25_2 < ((rd_L1 s0_1 x18_1).length : Int)
                    · rw [if_pos c12] at H
                      have c12b0 : decide (x25_2 < ((rd_L1 s0_1 x18_1).length : Int)) = true := decide_eq_true c12
                      clear c12
                      by_cases c13 : 0 ≤ x25_2
                      · rw [if_pos c13] at H
                        have c13b0 : decide (0 ≤ x25_2) = true := decide_eq_true c13
                        clear c13
                        by_cases c14 : x25_2 < ((rd_L1 s0_1 x18_1).length : Int)
                        · rw [if_pos c14] at H
                          have c14b0 : decide (x25_2 < ((rd_L1 s0_1 x18_1).length : Int)) = true := decide_eq_true c14
                          clear c14
                          by_cases c15 : 0 ≤ (rd (rd_L1 s0_1 x18_1) x25_2)
                          · rw [if_pos c15] at H
                            have c15b0 : decide (0 ≤ (rd (rd_L1 s0_1 x18_1) x25_2)) = true := decide_eq_true c15
                            clear c15
                            by_cases c16 : (rd (rd_L1 s0_1 x18_1) x25_2) < (x3_2.length : Int)
                            · rw [if_pos c16] at H
                              have c16b0 : decide ((rd (rd_L1 s0_1 x18_1) x25_2) < (x3_2.length : Int)) = true := decide_eq_true c16
                              clear c16
                              replace H := Option.bind_eq_some_iff.mp H
                              obtain ⟨t107, A170, H⟩ := H
                              replace H : (find_design_columns.l1 k2 (x3_2.set ((rd (rd_L1 s0_1 x18_1) x25_2) : Int).toNat t107) x18_1 s0_1 (s0_1.length : Int) x18_1 (rd_L1 s0_1 x18_1) ((rd_L1 s0_1 x18_1).length : Int) (wrap64 (x25_2 + 1)) s0_0 s0_1) = some (r1, r2) := H
                              have A17 := Aside0.mk A170
                              clear A170
                              obtain ⟨y108, hy108⟩ : ∃ y_ : List Int, y_ = (x3_2.set ((rd (rd_L1 s0_1 x18_1) x25_2) : Int).toNat t107) := ⟨_, rfl⟩
                              replace H : (find_design_columns.l1 k2 y108 x18_1 s0_1 (s0_1.length : Int) x18_1 (rd_L1 s0_1 x18_1) ((rd_L1 s0_1 x18_1).length : Int) (wrap64 (x25_2 + 1)) s0_0 s0_1) = some (r1, r2) := by first | (rw [hy108]; with_reducible exact H) | (have H2_ := (Option.bind_some _ _).symm.trans H; rw [hy108]; with_reducible exact H2_) | (have H2_ := (Option.bind_some _ _).symm.trans H; with_reducible exact H2_) | with_reducible exact H | (rw [hy108]; exact H) | exact H
                              have Ny108 := Aside0.mk hy108
                              clear hy108
                              have H' := Aside0.mk H
                              clear H
                              have p105 : 0 ≤ (x25_2 : Int) := of_decide_eq_true (by first | (with_reducible assumption) | assumption)
                              have q105 : x25_2 < ((rd_L1 s0_1 x18_1).length : Int) := of_decide_eq_true (by first | (with_reducible assumption) | assumption)
                              obtain ⟨ad105, e105, hx105_0⟩ := Kd.at_int HR104_0.out x25_2 p105 q105
                              cases e105
                              replace hx105_0 := pw_cell_below HB.out hx105_0
                              replace p105 := eq_true p105
                              replace q105 := eq_true q105
                              obtain ⟨Ao19, co19, eo19⟩ := Kd.R_slice HO_3.out
                              subst eo19
                              have p106 : 0 ≤ ((rd (rd_L1 s0_1 x18_1) x25_2) : Int) := of_decide_eq_true (by first | (with_reducible assumption) | assumption)
                              have q106 : (rd (rd_L1 s0_1 x18_1) x25_2) < (x3_2.length : Int) := of_decide_eq_true (by first | (with_reducible assumption) | assumption)
                              (try (obtain ⟨Aom_, com_, eom_⟩ := Kd.R_slice HO_3.out; subst eom_))
                              obtain ⟨ad106, e106, hx106_0⟩ := Kd.at_int (Kd.R_reads' HO_3.out).2.2 (rd (rd_L1 s0_1 x18_1) x25_2) p106 q106
                              cases e106
                              replace p106 := eq_true p106
                              replace q106 := eq_true q106
                              go_wp2_with (first | ((with_reducible refine gate_callee (f := 76) rfl ?_); refine goesL_ (some 36) rfl rfl Tryd.func76 (by kernel_rfl) rfl #[.int .u64 (rd x3_2 (rd (rd_L1 s0_1 x18_1) x25_2)), .int .i64 x18_1] rfl (by (try simp only [List.map_toArray, List.map_cons, List.map_nil]); first | done | rfl | (simp only [List.length_drop, List.length_take]; rfl)) ?_; (with_reducible refine (find_family.calls (rd x3_2 (rd (rd_L1 s0_1 x18_1) x25_2)) x18_1 t107 _ A17.out).mono ?_); rintro e w' ⟨rfl, ⟨nd, rfl⟩⟩; refine ⟨_, rfl, ?_⟩; (try (rw [drewN_self wr]; generalize hq_ : World.drewN wr _ = wr; have n0_ : Aside0 (Kd.R (Kd.int .u64) 70 wr w.heap.size (fun _ => True) (.slice (some ad106) x3_2.length co19) x3_2) := ⟨by rw [← hq_]; exact (by (with_reducible repeat (first | apply Kd.R_alloc | apply Kd.R_drewN | apply Kd.R_drew)); exact HO_3.out)⟩; have n1_ : Aside0 (IsS98 w0 wr g s0_0 s0_1) := ⟨by rw [← hq_]; exact (by repeat (first | (with_reducible first | exact HI0.out | apply IsS98.alloc | apply IsS98.drewN | apply IsS98.drew | apply IsS98.set_0) | exact HI0.out))⟩; have n2_ : Aside0 (KeepBut w wr g none) := ⟨by rw [← hq_]; exact (by repeat (first | (with_reducible first | exact HK.out | apply KeepBut.set_ | apply keep_drewN | apply keep_drew | apply keep_alloc) | exact HK.out))⟩; have n3_ : Aside0 (Below w0.heap.size w0 wr) := ⟨by rw [← hq_]; exact (by repeat (first | (with_reducible first | exact HB.out | apply below_alloc | apply pw_below_drewN | apply below_drew1 | refine below_set ?_ (IsS98.ge HI0.out)) | exact HB.out))⟩; clear HO_3 HI0 HK HB hq_; have HO_3 := n0_; have HI0 := n1_; have HK := n2_; have HB := n3_; clear n0_ n1_ n2_ n3_)); have p18 : 0 ≤ ((rd (rd_L1 s0_1 x18_1) x25_2) : Int) := of_decide_eq_true (by first | (with_reducible assumption) | assumption); have q18 : ((rd (rd_L1 s0_1 x18_1) x25_2) : Int) < ((x3_2.length : Int) : Int) := of_decide_eq_true (by first | (with_reducible assumption) | assumption); obtain ⟨go18, co18, eo18, gb18, gl18, cl18, HG18⟩ := Kd.R_form HO_3.out (by omega); (first | cases eo18 | (injection eo18 with ea_ en_ ec_; (first | subst ea_ | (injection ea_ with ea_; subst ea_)); subst ec_; clear en_)); have GB18 := Aside0.mk gb18; have GG18 := Aside0.mk HG18; clear gb18 gl18 HG18; (first | simp only [add_plain] at hx106_0 | skip); obtain ⟨hx18_0, hf18_0⟩ := Kd.R_celln 0 HO_3.out ((rd (rd_L1 s0_1 x18_1) x25_2) : Int) p18 q18; replace p18 := eq_true p18; replace q18 := eq_true q18; obtain ⟨hy20_, hz20_⟩ := Kd.R_celln 0 HO_3.out ((rd (rd_L1 s0_1 x18_1) x25_2) : Int) (of_decide_eq_true (by first | (with_reducible assumption) | assumption)) (of_decide_eq_true (by first | (with_reducible assumption) | assumption)); have HP20 := Kd.R_putg HO_3.out ((rd (rd_L1 s0_1 x18_1) x25_2) : Int) t107) | ((with_reducible refine gate_store (t := 70) (p := 37) rfl ?_); refine store_event (t := 70) (p := 37) (v := ?vo_w21) (w1 := (wr.setCell ⟨go18, ((rd (rd_L1 s0_1 x18_1) x25_2) : Int).toNat, none⟩ (.int .u64 t107))) ?hg ?ho ?hn ?hr ?_; (case ho => rfl); (case hg => rfl); (case hn => rfl); (case hr => first | (go_simp; done) | (go_simp; rfl)); intro w21 hw; have hg : wr.grownBy w21 (some go18) := (by rw [hw]; exact HP20.2); have hp_ : Kd.R (Kd.int .u64) 70 w21 w.heap.size (fun _ => True) (.slice (some ⟨go18, 0, none⟩) x3_2.length co19) y108 := (by rw [hw, Ny108.out]; exact HP20.1); clear HP20; have n0_ := Aside0.mk (hp_); have n1_ := Aside0.mk (IsS98.grown (by repeat (first | (with_reducible first | exact HI0.out | apply IsS98.alloc | apply IsS98.drewN | apply IsS98.drew | apply IsS98.set_0) | exact HI0.out)) hg (IsS98.own_ne HI0.out HO_3.out (by decide))); have n2_ := Aside0.mk ((by rw [hw]; exact below_set (HB.out) (Nat.le_trans HL.out GB18.out) : Below w0.heap.size w0 w21)); have n3_ := Aside0.mk (KeepBut.trans (by repeat (first | (with_reducible first | exact HK.out | apply KeepBut.set_ | apply keep_drewN | apply keep_drew | apply keep_alloc) | exact HK.out)) (KeepBut.of_grown hg g) (Kd.R_base2 HO_3.out)); clear HO_3; clear HI0; clear HB; clear HK; have HO_3 := n0_; have HI0 := n1_; have HB := n2_; have HK := n3_; clear n0_ n1_ n2_ n3_; clear hg hw hp_))
                              go_roundg k2
                              case measure => have := HK1.out; have := HK2.out; omega
                              case rel => exact ⟨(y108), (wrap64 (x25_2 + 1)), (by first | rfl | (simp; done) | (simp [*]; done)), H', ⟨by have := HK1.out; have := HK2.out; omega⟩, ⟨by (with_reducible repeat (first | apply Kd.R_alloc | apply Kd.R_drewN | apply Kd.R_drew)); first | exact HO_3.out | exact Kd.R_mono HO_3.out (fun k_ h_ => ne_own_len h_)⟩, ⟨by repeat (first | (with_reducible first | exact HI0.out | apply IsS98.alloc | apply IsS98.drewN | apply IsS98.drew | apply IsS98.set_0) | exact HI0.out)⟩, ⟨by repeat (first | (with_reducible first | exact HK.out | apply KeepBut.set_ | apply keep_drewN | apply keep_drew | apply keep_alloc) | exact HK.out)⟩, ⟨by repeat (first | (with_reducible first | exact HB.out | apply below_alloc | apply pw_below_drewN | apply below_drew1 | refine below_set ?_ (IsS98.ge HI0.out)) | exact HB.out)⟩⟩
                            · rw [if_neg c16] at H
                              exact absurd H (by simp)
                          · rw [if_neg c15] at H
                            exact absurd H (by simp)
                        · rw [if_neg c14] at H
                          exact absurd H (by simp)
                      · rw [if_neg c13] at H
                        exact absurd H (by simp)
                    · rw [if_neg c12] at H
                      have c12b0 : decide (x25_2 < ((rd_L1 s0_1 x18_1).length : Int)) = false := decide_eq_false c12
                      clear c12
                      have H' := Aside0.mk H
                      clear H
                      go_wp2
                      go_roundg k2
                      case measure => have := HK1.out; have := HK2.out; omega
                      case rel => exact ⟨(x3_2), (wrap64 (x18_1 + 1)), (by first | rfl | (simp; done) | (simp [*]; done)), H', ⟨by have := HK1.out; have := HK2.out; omega⟩, ⟨by (with_reducible repeat (first | apply Kd.R_alloc | apply Kd.R_drewN | apply Kd.R_drew)); first | exact HO_3.out | exact Kd.R_mono HO_3.out (fun k_ h_ => ne_own_len h_)⟩, ⟨by repeat (first | (with_reducible first | exact HI0.out | apply IsS98.alloc | apply IsS98.drewN | apply IsS98.drew | apply IsS98.set_0) | exact HI0.out)⟩, ⟨by repeat (first | (with_reducible first | exact HK.out | apply KeepBut.set_ | apply keep_drewN | apply keep_drew | apply keep_alloc) | exact HK.out)⟩, ⟨by repeat (first | (with_reducible first | exact HB.out | apply below_alloc | apply pw_below_drewN | apply below_drew1 | refine below_set ?_ (IsS98.ge HI0.out)) | exact HB.out)⟩⟩
              · rw [if_neg c10] at H
                exact absurd H (by simp)
            · rw [if_neg c9] at H
              exact absurd H (by simp)
          · rw [if_neg c8] at H
            have c8b0 : decide (x18_1 < (s0_1.length : Int)) = false := decide_eq_false c8
            clear c8
            simp only [Option.some.injEq, Prod.mk.injEq] at H
            obtain ⟨rfl, rfl⟩ := H
            go_wp2
            go_ret
            exact ⟨_, by first | rfl | (simp [errW_none, errW_some] <;> rfl) | (simp [*, errW_none, errW_some] <;> rfl), by (with_reducible repeat (first | apply Kd.R_alloc | apply Kd.R_drewN | apply Kd.R_drew)); exact HO_3.out, by repeat (first | (with_reducible first | exact HI0.out | apply IsS98.alloc | apply IsS98.drewN | apply IsS98.drew | apply IsS98.set_0) | exact HI0.out), by repeat (first | (with_reducible first | exact HB.out | apply below_alloc | apply pw_below_drewN | apply below_drew1 | refine below_set ?_ (IsS98.ge HI0.out)) | exact HB.out), by repeat (first | (with_reducible first | exact HK.out | apply KeepBut.set_ | apply keep_drewN | apply keep_drew | apply keep_alloc) | exact HK.out)⟩
    · rw [if_neg c3] at H
      exact absurd H (by simp)
  · rw [if_neg c2] at H
    exact absurd H (by simp)

end Go.Proofs.YtglajokjiphafaaDoor.P

namespace Go.Proofs.YtglajokjiphafaaDoor.P
open Go.RowKit Go.Proofs.YtglajokjiphafaaDoorW.PrintWords Go.Proofs.YtglajokjiphafaaDoorW.PrintLast Go.Proofs.YtglajokjiphafaaDoorW.PrintMore
attribute [local go_sem] max2_int min2_int max_two min_two max_three min_three max_four min_four   -- for this text's walks alone
set_option linter.unusedVariables false
set_option linter.unusedSimpArgs false

/-! ### find_dark: function 48 -/
def find_dark.l0 : Nat → List Int → Int → List Int → Int → Int → Option (Int)
  | 0, _, _, _, _, _ => none
  | k + 1, x0, x5, x8, x9, x10 => if x10 < x9 then (if 0 ≤ x10 then (if x10 < (x8.length : Int) then (if 0 ≤ (rd x8 x10) then (if (rd x8 x10) < (x0.length : Int) then (find_dark.l0 k x0 (Go.bits .or .u64 x5 (rd x0 (rd x8 x10))) x8 x9 (wrap64 (x10 + 1))) else (none)) else (none)) else (none)) else (none)) else (some x5)
def find_dark.f (k : Nat) (l0 : List Int) (l1 : List Int) : Option (Int) := find_dark.l0 k l0 0 l1 (l1.length : Int) 0
theorem find_dark.mono_l : ∀ k, (∀ y0 y1 y2 y3 y4, LeO (find_dark.l0 k y0 y1 y2 y3 y4) (find_dark.l0 (k + 1) y0 y1 y2 y3 y4))
  | 0 => fun _ _ _ _ _ r h => by simp [find_dark.l0] at h
  | k + 1 => by
    have ih0 := find_dark.mono_l k
    · intro y0 y1 y2 y3 y4
      unfold find_dark.l0
      repeat' first
      | (with_reducible exact ih0 _ _ _ _ _)
      | (with_reducible exact LeO.refl _)
      | (with_reducible exact LeO.none _)
      | (with_reducible refine LeO.ite ?_ ?_)
      | (with_reducible refine LeO.bind ?_ (fun _ => ?_))
      | exact ih0 _ _ _ _ _
      | exact LeO.none _
      | refine LeO.ite ?_ ?_
      | refine LeO.bind ?_ (fun _ => ?_)
theorem find_dark.mono : ∀ a0 a1 k, LeO (find_dark.f k a0 a1) (find_dark.f (k + 1) a0 a1) := by
  intro a0 a1 k
  have ih0 := find_dark.mono_l k
  unfold find_dark.f
  repeat' first
      | (with_reducible exact ih0 _ _ _ _ _)
      | (with_reducible exact LeO.refl _)
      | (with_reducible exact LeO.none _)
      | (with_reducible refine LeO.ite ?_ ?_)
      | (with_reducible refine LeO.bind ?_ (fun _ => ?_))
      | exact ih0 _ _ _ _ _
      | exact LeO.none _
      | refine LeO.ite ?_ ?_
      | refine LeO.bind ?_ (fun _ => ?_)
set_option maxHeartbeats 8000000 in
set_option maxRecDepth 100000 in
theorem find_dark.calls (k : Nat) (A0 : Option Addr) (c0 : Nat) (l0 : List Int) (A1 : Option Addr) (c1 : Nat) (l1 : List Int) (r : Int) (w : World) (hr0 : Kd.C (Kd.int .u64) w A0 l0.length l0) (hc0 : l0.length ≤ c0) (hr1 : Kd.C (Kd.int .i64) w A1 l1.length l1) (hc1 : l1.length ≤ c1) (h : find_dark.f k l0 l1 = some r) :
    Calls Tryd.prog 48 #[.slice A0 l0.length c0, .slice A1 l1.length c1] w fun e w' => e = .returned (.int .u64 r) ∧ Drawn0 w w' := by
  have HR0 := Aside0.mk hr0
  have HC0 := Aside0.mk hc0
  clear hr0 hc0
  have HR1 := Aside0.mk hr1
  have HC1 := Aside0.mk hc1
  clear hr1 hc1
  have H : (find_dark.l0 k l0 0 l1 (l1.length : Int) 0) = some r := h
  clear h
  have H' := Aside0.mk H
  clear H
  go_enter Tryd.func48, Tryd.ntmps48
  go_wp2
  go_loopg [5, 10] k (fun kq v5 v10 w' => ∃ (x5_1 : Int) (x10_1 : Int), v5 = .int .u64 x5_1 ∧ v10 = .int .i64 x10_1 ∧ Aside0 (find_dark.l0 kq l0 x5_1 l1 (l1.length : Int) x10_1 = some r) ∧ Aside0 (kq ≤ k) ∧ Drawn0 w w')
  case atStart => exact ⟨(0), (0), (by first | rfl | (simp; done) | (simp [*]; done)), (by first | rfl | (simp; done) | (simp [*]; done)), H', ⟨Nat.le_refl _⟩, by repeat (first | exact Drawn0.refl _ | apply Drawn0.step)⟩
  case round =>
    clear H'
    try clear c1
    try clear p2
    obtain ⟨x5_1, x10_1, rfl, rfl, HA, HK1, ⟨m1, rfl⟩⟩ := hrel
    cases gk with
    | zero => exact absurd HA.out (by simp [find_dark.l0])
    | succ k1 =>
      have H := HA.out
      clear HA
      simp only [find_dark.l0] at H
      by_cases c3 : x10_1 < (l1.length : Int)
      · rw [if_pos c3] at H
        have c3b0 : decide (x10_1 < (l1.length : Int)) = true := decide_eq_true c3
        clear c3
        by_cases c4 : 0 ≤ x10_1
        · rw [if_pos c4] at H
          have c4b0 : decide (0 ≤ x10_1) = true := decide_eq_true c4
          clear c4
          by_cases c5 : x10_1 < (l1.length : Int)
          · rw [if_pos c5] at H
            have c5b0 : decide (x10_1 < (l1.length : Int)) = true := decide_eq_true c5
            clear c5
            by_cases c6 : 0 ≤ (rd l1 x10_1)
            · rw [if_pos c6] at H
              have c6b0 : decide (0 ≤ (rd l1 x10_1)) = true := decide_eq_true c6
              clear c6
              by_cases c7 : (rd l1 x10_1) < (l0.length : Int)
              · rw [if_pos c7] at H
                have c7b0 : decide ((rd l1 x10_1) < (l0.length : Int)) = true := decide_eq_true c7
                clear c7
                have H' := Aside0.mk H
                clear H
                have p109 : 0 ≤ (x10_1 : Int) := of_decide_eq_true (by first | (with_reducible assumption) | assumption)
                have q109 : x10_1 < (l1.length : Int) := of_decide_eq_true (by first | (with_reducible assumption) | assumption)
                obtain ⟨ad109, e109, hx109_0⟩ := Kd.at_int HR1.out x10_1 p109 q109
                cases e109
                replace p109 := eq_true p109
                replace q109 := eq_true q109
                have p110 : 0 ≤ ((rd l1 x10_1) : Int) := of_decide_eq_true (by first | (with_reducible assumption) | assumption)
                have q110 : (rd l1 x10_1) < (l0.length : Int) := of_decide_eq_true (by first | (with_reducible assumption) | assumption)
                obtain ⟨ad110, e110, hx110_0⟩ := Kd.at_int HR0.out (rd l1 x10_1) p110 q110
                cases e110
                replace p110 := eq_true p110
                replace q110 := eq_true q110
                go_wp2
                go_roundg k1
                case measure => have := HK1.out; omega
                case rel => exact ⟨(Go.bits .or .u64 x5_1 (rd l0 (rd l1 x10_1))), (wrap64 (x10_1 + 1)), (by first | rfl | (simp; done) | (simp [*]; done)), (by first | rfl | (simp; done) | (simp [*]; done)), H', ⟨by have := HK1.out; omega⟩, by repeat (first | exact Drawn0.refl _ | apply Drawn0.step)⟩
              · rw [if_neg c7] at H
                exact absurd H (by simp)
            · rw [if_neg c6] at H
              exact absurd H (by simp)
          · rw [if_neg c5] at H
            exact absurd H (by simp)
        · rw [if_neg c4] at H
          exact absurd H (by simp)
      · rw [if_neg c3] at H
        have c3b0 : decide (x10_1 < (l1.length : Int)) = false := decide_eq_false c3
        clear c3
        obtain rfl := Option.some.inj H
        go_wp2
        go_ret
        exact ⟨by first | rfl | (simp; done) | (simp [*]; done), by repeat (first | exact Drawn0.refl _ | apply Drawn0.step)⟩

end Go.Proofs.YtglajokjiphafaaDoor.P

set_option linter.unusedSimpArgs false
set_option linter.unusedVariables false
namespace Go.Proofs.YtglajokjiphafaaDoor.P
open Go.Lib Go.RowKit Go.Proofs.YtglajokjiphafaaDoorW.PrintWords Go.Proofs.YtglajokjiphafaaDoorW.PrintLast Go.Proofs.YtglajokjiphafaaDoorW.PrintMore Go.Proofs.YtglajokjiphafaaDoor.Kit

theorem rdL_get (l : List (List Int)) (i : Nat) (h : i < l.length) : rd_L1 l (i : Int) = l[i] := by
  unfold rd_L1
  simp [h]
/-- All rows hold numbers from 0 to n - 1. -/
def RowsIn (n : Nat) (d : List (List Int)) : Prop := ∀ r ∈ d, ∀ x ∈ r, 0 ≤ x ∧ x < (n : Int)
/-- The state of columns: all rows up to one, and some of this one. -/
def colsAt (n : Nat) (d : List (List Int)) (i : Nat) (q : List Int) : List Int := (List.range n).map fun (t : Nat) => ((fam (t : Int) d ||| (if q.contains (t : Int) = true then 2 ^ i else 0) : Nat) : Int)
theorem colsAt_length (n : Nat) (d : List (List Int)) (i : Nat) (q : List Int) : (colsAt n d i q).length = n := by simp [colsAt]
theorem colsAt_nil (n : Nat) (d : List (List Int)) (i : Nat) : colsAt n d i [] = colsOf n d := by
  unfold colsAt colsOf
  refine List.map_congr_left fun t _ => ?_
  simp
theorem colsAt_full (n : Nat) (d : List (List Int)) (r : List Int) : colsAt n d d.length r = colsOf n (d ++ [r]) := by
  unfold colsAt colsOf
  refine List.map_congr_left fun t _ => ?_
  rw [fam_snoc]
theorem colsAt_set (n : Nat) (d : List (List Int)) (i : Nat) (q : List Int) (x : Nat) (hx : x < n) (v : Int) (hv : v = ((fam (x : Int) d ||| 2 ^ i : Nat) : Int)) :
    (colsAt n d i q).set x v = colsAt n d i (q ++ [(x : Int)]) := by
  subst hv
  refine List.ext_getElem (by simp [colsAt]) fun t h1 h2 => ?_
  rw [List.getElem_set]
  simp only [colsAt, List.getElem_map, List.getElem_range, List.contains_eq_mem, List.mem_append, List.mem_singleton]
  by_cases e : x = t
  · subst e
    simp
  · have : ¬ ((t : Int) = (x : Int)) := by omega
    simp [e, this]
theorem pow_lt64 {i : Nat} (h : i ≤ 63) : 2 ^ i < 18446744073709551616 := by
  have h1 : 2 ^ i ≤ 2 ^ 63 := Nat.pow_le_pow_right (by decide) h
  have h2 : (2 : Nat) ^ 63 = 9223372036854775808 := rfl
  omega
theorem cols_l1 (n : Nat) (d d0 : List (List Int)) (r : List Int) (hd0 : d0.length ≤ 63) (hrow : ∀ x ∈ r, 0 ≤ x ∧ x < (n : Int)) (hrl : r.length ≤ 4611686018427387904) (x1000 : Int) (x1001 : List (List Int)) (res : List Int × Int)
    (hnext : Ev (fun k => find_design_columns.l0 k (colsAt n d0 d0.length r) d (d.length : Int) ((d0.length + 1 : Nat) : Int) x1000 x1001) res) :
    ∀ m j, r.length - j = m → j ≤ r.length → Ev (fun k => find_design_columns.l1 k (colsAt n d0 d0.length (r.take j)) (d0.length : Int) d (d.length : Int) (d0.length : Int) r (r.length : Int) (j : Int) x1000 x1001) res := by
  intro m
  induction m with
  | zero =>
    intro j hm hj
    have hje : j = r.length := by omega
    subst hje
    rw [List.take_length]
    refine Ev.step (fun k => ?_) hnext
    simp only [find_design_columns.l1]
    rw [if_neg (by omega), wrap1 (by omega)]
  | succ m ih =>
    intro j hm hj
    have hlt : j < r.length := by omega
    obtain ⟨x, hx⟩ := Int.eq_ofNat_of_zero_le (hrow r[j] (List.getElem_mem hlt)).1
    have hxn : x < n := by have := (hrow r[j] (List.getElem_mem hlt)).2; omega
    have hrd : rd r (j : Int) = (x : Int) := by rw [rd_get r j hlt, hx]
    have hrc : rd (colsAt n d0 d0.length (r.take j)) (x : Int) = ((fam (x : Int) d0 ||| (if (r.take j).contains (x : Int) = true then 2 ^ d0.length else 0) : Nat) : Int) := by
      rw [rd_get _ x (by rw [colsAt_length]; exact hxn)]
      simp [colsAt]
    have hf := fam_lt64 (x : Int) (d := d0) (by omega)
    have hp := pow_lt64 (i := d0.length) hd0
    have hy : (fam (x : Int) d0 ||| (if (r.take j).contains (x : Int) = true then 2 ^ d0.length else 0)) < 18446744073709551616 := by
      have := Nat.or_lt_two_pow (n := 64) (x := fam (x : Int) d0) (y := if (r.take j).contains (x : Int) = true then 2 ^ d0.length else 0) (by simpa using hf) (by split; simpa using hp; simp)
      simpa using this
    have hb : Go.bits .or .u64 (rd (colsAt n d0 d0.length (r.take j)) (x : Int)) (shl .u64 1 (d0.length : Int)) = ((fam (x : Int) d0 ||| 2 ^ d0.length : Nat) : Int) := by
      rw [hrc, shlu hd0, oru _ _ hy hp]
      congr 1
      split
      · rw [Nat.or_assoc, Nat.or_self]
      · rw [Nat.or_zero]
    have hs := colsAt_set n d0 d0.length (r.take j) x hxn _ rfl
    have ht : r.take j ++ [(x : Int)] = r.take (j + 1) := by rw [List.take_succ_eq_append_getElem hlt, hx]
    refine Ev.step (fun k => ?_) (ih (j + 1) (by omega) (by omega))
    simp only [find_design_columns.l1]
    rw [if_pos (by omega), if_pos (by omega), if_pos (by omega), hrd, if_pos (by omega), if_pos (by rw [colsAt_length]; omega)]
    unfold find_family.f
    rw [if_pos (by omega), Option.bind_some, hb, Int.toNat_natCast, hs, ht, wrap1 (by omega)]
theorem cols_l0 (n : Nat) (d : List (List Int)) (hd : d.length ≤ 60) (hrow : RowsIn n d) (hrl : ∀ r ∈ d, r.length ≤ 4611686018427387904) (x1000 : Int) (x1001 : List (List Int)) :
    ∀ m i, d.length - i = m → i ≤ d.length → Ev (fun k => find_design_columns.l0 k (colsOf n (d.take i)) d (d.length : Int) (i : Int) x1000 x1001) (colsOf n d, x1000) := by
  intro m
  induction m with
  | zero =>
    intro i hm hi
    have hie : i = d.length := by omega
    subst hie
    rw [List.take_length]
    refine Ev.step (fun k => ?_) (Ev.now (colsOf n d, x1000))
    simp only [find_design_columns.l0]
    rw [if_neg (by omega)]
  | succ m ih =>
    intro i hm hi
    have hlt : i < d.length := by omega
    have hl : (d.take i).length = i := by rw [List.length_take]; omega
    have ht : d.take i ++ [d[i]] = d.take (i + 1) := (List.take_succ_eq_append_getElem hlt).symm
    have h1 := ih (i + 1) (by omega) (by omega)
    rw [← ht, ← colsAt_full, hl] at h1
    have h2 := cols_l1 n d (d.take i) d[i] (by omega) (hrow _ (List.getElem_mem hlt)) (hrl _ (List.getElem_mem hlt)) x1000 x1001 (colsOf n d, x1000) (by rw [hl]; exact h1) (d[i]).length 0 (by omega) (by omega)
    rw [List.take_zero, colsAt_nil, hl] at h2
    refine Ev.step (fun k => ?_) h2
    simp only [find_design_columns.l0]
    rw [if_pos (by omega), if_pos (by omega), if_pos (by omega), rdL_get d i hlt]
    rfl
theorem cols_zero (n : Nat) : colsOf n [] = List.replicate n 0 := by
  refine List.ext_getElem (by simp [colsOf]) fun i h1 h2 => ?_
  simp [colsOf, fam]
/-- The families that columns makes. -/
theorem cols_ev (n : Nat) (hn : n ≤ 100) (d : List (List Int)) (hd : d.length ≤ 60) (hrow : RowsIn n d) (hrl : ∀ r ∈ d, r.length ≤ 4611686018427387904) :
    Ev (fun k => find_design_columns.f k (n : Int) d) (colsOf n d, (n : Int)) := by
  have h := cols_l0 n d hd hrow hrl (n : Int) d d.length 0 (by omega) (by omega)
  rw [List.take_zero, cols_zero] at h
  refine Ev.congr (fun k => ?_) h
  unfold find_design_columns.f
  rw [if_pos (by omega), if_pos (by omega), Int.toNat_natCast]
  rfl
theorem dark_l0 (n : Nat) (d : List (List Int)) (hd : d.length ≤ 60) (l : List Int) (hl : ∀ x ∈ l, 0 ≤ x ∧ x < (n : Int)) (hll : l.length ≤ 4611686018427387904) :
    ∀ m i k, l.length - i = m → i ≤ l.length → m < k → find_dark.l0 k (colsOf n d) (darkN d (l.take i) : Int) l (l.length : Int) (i : Int) = some (darkN d l : Int) := by
  intro m
  induction m with
  | zero =>
    intro i k hm hi hk
    obtain ⟨k, rfl⟩ : ∃ j, k = j + 1 := ⟨k - 1, by omega⟩
    have hie : i = l.length := by omega
    subst hie
    rw [List.take_length]
    simp only [find_dark.l0]
    rw [if_neg (by omega)]
  | succ m ih =>
    intro i k hm hi hk
    obtain ⟨k, rfl⟩ : ∃ j, k = j + 1 := ⟨k - 1, by omega⟩
    have hlt : i < l.length := by omega
    obtain ⟨x, hx⟩ := Int.eq_ofNat_of_zero_le (hl l[i] (List.getElem_mem hlt)).1
    have hxn : x < n := by have := (hl l[i] (List.getElem_mem hlt)).2; omega
    have hrd : rd l (i : Int) = (x : Int) := by rw [rd_get l i hlt, hx]
    have ht : l.take (i + 1) = l.take i ++ [(x : Int)] := by rw [List.take_succ_eq_append_getElem hlt, hx]
    have h1 := ih (i + 1) k (by omega) (by omega) (by omega)
    rw [ht, darkN_append] at h1
    have h2 : darkN d [(x : Int)] = fam (x : Int) d := by simp [darkN]
    rw [h2] at h1
    simp only [find_dark.l0]
    rw [if_pos (by omega), if_pos (by omega), if_pos (by omega), hrd, if_pos (by omega), if_pos (by rw [colsOf_length]; omega), rd_colsOf n d x hxn,
      oru _ _ (darkN_lt64 (by omega) _) (fam_lt64 _ (by omega)), wrap1 (by omega)]
    exact h1
theorem dark_f (n : Nat) (d : List (List Int)) (hd : d.length ≤ 60) (l : List Int) (hl : ∀ x ∈ l, 0 ≤ x ∧ x < (n : Int)) (hll : l.length ≤ 4611686018427387904) (k : Nat) (hk : l.length < k) :
    find_dark.f k (colsOf n d) l = some (darkN d l : Int) := by
  have := dark_l0 n d hd l hl hll l.length 0 k (by omega) (by omega) hk
  rw [List.take_zero] at this
  exact this
end Go.Proofs.YtglajokjiphafaaDoor.P

namespace Go.Proofs.YtglajokjiphafaaDoor.P
open Go.RowKit Go.Proofs.YtglajokjiphafaaDoorW.PrintWords Go.Proofs.YtglajokjiphafaaDoorW.PrintLast Go.Proofs.YtglajokjiphafaaDoorW.PrintMore
attribute [local go_sem] max2_int min2_int max_two min_two max_three min_three max_four min_four   -- for this text's walks alone
set_option linter.unusedVariables false
set_option linter.unusedSimpArgs false

/-! ### find_rising: function 54 -/
def find_rising.l0 : Nat → List Int → Int → List Int → Int → Int → Option (Bool)
  | 0, _, _, _, _, _ => none
  | k + 1, x0, x1, x7, x8, x9 => if x9 < x8 then (if 0 ≤ x9 then (if x9 < (x7.length : Int) then (if (rd x7 x9) < 0 then (some false) else (if (rd x7 x9) ≥ x1 then (some false) else (if x9 > 0 then (if 0 ≤ (wrap64 (x9 - 1)) then (if (wrap64 (x9 - 1)) < (x0.length : Int) then (if (rd x7 x9) ≤ (rd x0 (wrap64 (x9 - 1))) then (some false) else (find_rising.l0 k x0 x1 x7 x8 (wrap64 (x9 + 1)))) else (none)) else (none)) else (find_rising.l0 k x0 x1 x7 x8 (wrap64 (x9 + 1)))))) else (none)) else (none)) else (some true)
def find_rising.f (k : Nat) (l0 : List Int) (a1 : Int) : Option (Bool) := find_rising.l0 k l0 a1 l0 (l0.length : Int) 0
theorem find_rising.mono_l : ∀ k, (∀ y0 y1 y2 y3 y4, LeO (find_rising.l0 k y0 y1 y2 y3 y4) (find_rising.l0 (k + 1) y0 y1 y2 y3 y4))
  | 0 => fun _ _ _ _ _ r h => by simp [find_rising.l0] at h
  | k + 1 => by
    have ih0 := find_rising.mono_l k
    · intro y0 y1 y2 y3 y4
      unfold find_rising.l0
      repeat' first
      | (with_reducible exact ih0 _ _ _ _ _)
      | (with_reducible exact LeO.refl _)
      | (with_reducible exact LeO.none _)
      | (with_reducible refine LeO.ite ?_ ?_)
      | (with_reducible refine LeO.bind ?_ (fun _ => ?_))
      | exact ih0 _ _ _ _ _
      | exact LeO.none _
      | refine LeO.ite ?_ ?_
      | refine LeO.bind ?_ (fun _ => ?_)
theorem find_rising.mono : ∀ a0 a1 k, LeO (find_rising.f k a0 a1) (find_rising.f (k + 1) a0 a1) := by
  intro a0 a1 k
  have ih0 := find_rising.mono_l k
  unfold find_rising.f
  repeat' first
      | (with_reducible exact ih0 _ _ _ _ _)
      | (with_reducible exact LeO.refl _)
      | (with_reducible exact LeO.none _)
      | (with_reducible refine LeO.ite ?_ ?_)
      | (with_reducible refine LeO.bind ?_ (fun _ => ?_))
      | exact ih0 _ _ _ _ _
      | exact LeO.none _
      | refine LeO.ite ?_ ?_
      | refine LeO.bind ?_ (fun _ => ?_)
set_option maxHeartbeats 8000000 in
set_option maxRecDepth 100000 in
theorem find_rising.calls (k : Nat) (A0 : Option Addr) (c0 : Nat) (l0 : List Int) (a1 : Int) (r : Bool) (w : World) (hr0 : Kd.C (Kd.int .i64) w A0 l0.length l0) (hc0 : l0.length ≤ c0) (h : find_rising.f k l0 a1 = some r) :
    Calls Tryd.prog 54 #[.slice A0 l0.length c0, .int .i64 a1] w fun e w' => e = .returned (.bool r) ∧ Drawn0 w w' := by
  have HR0 := Aside0.mk hr0
  have HC0 := Aside0.mk hc0
  clear hr0 hc0
  have H : (find_rising.l0 k l0 a1 l0 (l0.length : Int) 0) = some r := h
  clear h
  have H' := Aside0.mk H
  clear H
  go_enter Tryd.func54, Tryd.ntmps54
  go_wp2
  go_loopg [9] k (fun kq v9 w' => ∃ (x9_1 : Int), v9 = .int .i64 x9_1 ∧ Aside0 (find_rising.l0 kq l0 a1 l0 (l0.length : Int) x9_1 = some r) ∧ Aside0 (kq ≤ k) ∧ Drawn0 w w')
  case atStart => exact ⟨(0), (by first | rfl | (simp; done) | (simp [*]; done)), H', ⟨Nat.le_refl _⟩, by repeat (first | exact Drawn0.refl _ | apply Drawn0.step)⟩
  case round =>
    clear H'
    try clear p2
    obtain ⟨x9_1, rfl, HA, HK1, ⟨m1, rfl⟩⟩ := hrel
    cases gk with
    | zero => exact absurd HA.out (by simp [find_rising.l0])
    | succ k1 =>
      have H := HA.out
      clear HA
      simp only [find_rising.l0] at H
      by_cases c3 : x9_1 < (l0.length : Int)
      · rw [if_pos c3] at H
        have c3b0 : decide (x9_1 < (l0.length : Int)) = true := decide_eq_true c3
        clear c3
        by_cases c4 : 0 ≤ x9_1
        · rw [if_pos c4] at H
          have c4b0 : decide (0 ≤ x9_1) = true := decide_eq_true c4
          clear c4
          by_cases c5 : x9_1 < (l0.length : Int)
          · rw [if_pos c5] at H
            have c5b0 : decide (x9_1 < (l0.length : Int)) = true := decide_eq_true c5
            clear c5
            by_cases c6 : (rd l0 x9_1) < 0
            · rw [if_pos c6] at H
              have c6b0 : decide ((rd l0 x9_1) < 0) = true := decide_eq_true c6
              clear c6
              obtain rfl := Option.some.inj H
              have p113 : 0 ≤ (x9_1 : Int) := of_decide_eq_true (by first | (with_reducible assumption) | assumption)
              have q113 : x9_1 < (l0.length : Int) := of_decide_eq_true (by first | (with_reducible assumption) | assumption)
              obtain ⟨ad113, e113, hx113_0⟩ := Kd.at_int HR0.out x9_1 p113 q113
              cases e113
              replace p113 := eq_true p113
              replace q113 := eq_true q113
              go_wp2
              go_ret
              exact ⟨by first | rfl | (simp; done) | (simp [*]; done), by repeat (first | exact Drawn0.refl _ | apply Drawn0.step)⟩
            · rw [if_neg c6] at H
              have c6b0 : decide ((rd l0 x9_1) < 0) = false := decide_eq_false c6
              clear c6
              by_cases c7 : (rd l0 x9_1) ≥ a1
              · rw [if_pos c7] at H
                have c7b0 : decide (a1 ≤ (rd l0 x9_1)) = true := decide_eq_true c7
                clear c7
                obtain rfl := Option.some.inj H
                have p113 : 0 ≤ (x9_1 : Int) := of_decide_eq_true (by first | (with_reducible assumption) | assumption)
                have q113 : x9_1 < (l0.length : Int) := of_decide_eq_true (by first | (with_reducible assumption) | assumption)
                obtain ⟨ad113, e113, hx113_0⟩ := Kd.at_int HR0.out x9_1 p113 q113
                cases e113
                replace p113 := eq_true p113
                replace q113 := eq_true q113
                go_wp2
                go_ret
                exact ⟨by first | rfl | (simp; done) | (simp [*]; done), by repeat (first | exact Drawn0.refl _ | apply Drawn0.step)⟩
              · rw [if_neg c7] at H
                have c7b0 : decide (a1 ≤ (rd l0 x9_1)) = false := decide_eq_false c7
                clear c7
                by_cases c8 : x9_1 > 0
                · rw [if_pos c8] at H
                  have c8b0 : decide (0 < x9_1) = true := decide_eq_true c8
                  clear c8
                  obtain ⟨ji9, hji9⟩ : ∃ j_ : Int, (wrap64 (x9_1 - 1)) = j_ := ⟨_, rfl⟩
                  replace H : (if 0 ≤ (ji9) then (if (ji9) < (l0.length : Int) then (if (rd l0 x9_1) ≤ (rd l0 (ji9)) then (some false) else (find_rising.l0 k1 l0 a1 l0 (l0.length : Int) (wrap64 (x9_1 + 1)))) else (none)) else (none)) = some r := by first | (rw [hji9] at H; exact H) | (simp only [hji9] at H ⊢; exact H)
                  have hji9w : (IntKind.i64.wrap (x9_1 - 1)) = ji9 := (i64_w _).trans hji9
                  by_cases c10 : 0 ≤ (ji9)
                  · rw [if_pos c10] at H
                    have c10b0 : decide (0 ≤ (ji9)) = true := decide_eq_true c10
                    clear c10
                    by_cases c11 : (ji9) < (l0.length : Int)
                    · rw [if_pos c11] at H
                      have c11b0 : decide ((ji9) < (l0.length : Int)) = true := decide_eq_true c11
                      clear c11
                      by_cases c12 : (rd l0 x9_1) ≤ (rd l0 (ji9))
                      · rw [if_pos c12] at H
                        have c12b0 : decide ((rd l0 x9_1) ≤ (rd l0 (ji9))) = true := decide_eq_true c12
                        clear c12
                        obtain rfl := Option.some.inj H
                        have p113 : 0 ≤ (x9_1 : Int) := of_decide_eq_true (by first | (with_reducible assumption) | assumption)
                        have q113 : x9_1 < (l0.length : Int) := of_decide_eq_true (by first | (with_reducible assumption) | assumption)
                        obtain ⟨ad113, e113, hx113_0⟩ := Kd.at_int HR0.out x9_1 p113 q113
                        cases e113
                        replace p113 := eq_true p113
                        replace q113 := eq_true q113
                        have p114 : 0 ≤ ((ji9) : Int) := of_decide_eq_true (by first | (with_reducible assumption) | assumption)
                        have q114 : (ji9) < (l0.length : Int) := of_decide_eq_true (by first | (with_reducible assumption) | assumption)
                        obtain ⟨ad114, e114, hx114_0⟩ := Kd.at_int HR0.out (ji9) p114 q114
                        obtain rfl : ad113 = ad114 := (by injection e114)
                        replace p114 := eq_true p114
                        replace q114 := eq_true q114
                        go_wp2
                        go_ret
                        exact ⟨by first | rfl | (simp; done) | (simp only [← hji9] <;> (first | rfl | simp)) | (simp [*]; done), by repeat (first | exact Drawn0.refl _ | apply Drawn0.step)⟩
                      · rw [if_neg c12] at H
                        have c12b0 : decide ((rd l0 x9_1) ≤ (rd l0 (ji9))) = false := decide_eq_false c12
                        clear c12
                        have H' := Aside0.mk H
                        clear H
                        have p113 : 0 ≤ (x9_1 : Int) := of_decide_eq_true (by first | (with_reducible assumption) | assumption)
                        have q113 : x9_1 < (l0.length : Int) := of_decide_eq_true (by first | (with_reducible assumption) | assumption)
                        obtain ⟨ad113, e113, hx113_0⟩ := Kd.at_int HR0.out x9_1 p113 q113
                        cases e113
                        replace p113 := eq_true p113
                        replace q113 := eq_true q113
                        have p114 : 0 ≤ ((ji9) : Int) := of_decide_eq_true (by first | (with_reducible assumption) | assumption)
                        have q114 : (ji9) < (l0.length : Int) := of_decide_eq_true (by first | (with_reducible assumption) | assumption)
                        obtain ⟨ad114, e114, hx114_0⟩ := Kd.at_int HR0.out (ji9) p114 q114
                        obtain rfl : ad113 = ad114 := (by injection e114)
                        replace p114 := eq_true p114
                        replace q114 := eq_true q114
                        go_wp2
                        go_roundg k1
                        case measure => have := HK1.out; omega
                        case rel => exact ⟨(wrap64 (x9_1 + 1)), (by first | rfl | (simp; done) | (simp [*]; done)), H', ⟨by have := HK1.out; omega⟩, by repeat (first | exact Drawn0.refl _ | apply Drawn0.step)⟩
                    · rw [if_neg c11] at H
                      exact absurd H (by simp)
                  · rw [if_neg c10] at H
                    exact absurd H (by simp)
                · rw [if_neg c8] at H
                  have c8b0 : decide (0 < x9_1) = false := decide_eq_false c8
                  clear c8
                  have H' := Aside0.mk H
                  clear H
                  have p113 : 0 ≤ (x9_1 : Int) := of_decide_eq_true (by first | (with_reducible assumption) | assumption)
                  have q113 : x9_1 < (l0.length : Int) := of_decide_eq_true (by first | (with_reducible assumption) | assumption)
                  obtain ⟨ad113, e113, hx113_0⟩ := Kd.at_int HR0.out x9_1 p113 q113
                  cases e113
                  replace p113 := eq_true p113
                  replace q113 := eq_true q113
                  go_wp2
                  go_roundg k1
                  case measure => have := HK1.out; omega
                  case rel => exact ⟨(wrap64 (x9_1 + 1)), (by first | rfl | (simp; done) | (simp [*]; done)), H', ⟨by have := HK1.out; omega⟩, by repeat (first | exact Drawn0.refl _ | apply Drawn0.step)⟩
          · rw [if_neg c5] at H
            exact absurd H (by simp)
        · rw [if_neg c4] at H
          exact absurd H (by simp)
      · rw [if_neg c3] at H
        have c3b0 : decide (x9_1 < (l0.length : Int)) = false := decide_eq_false c3
        clear c3
        obtain rfl := Option.some.inj H
        go_wp2
        go_ret
        exact ⟨by first | rfl | (simp; done) | (simp [*]; done), by repeat (first | exact Drawn0.refl _ | apply Drawn0.step)⟩

/-- THE ONE PURE STATEMENT of find_rising: yours. -/
def find_rising.Pure : Prop := ∀ (l0 : List Int) (a1 : Int), l0.length ≤ maxLen → l0.length * 8 ≤ 140737488351232 → (∀ x ∈ l0, (Lit.int .i64 x).wf = true) → (Lit.int .i64 a1).wf = true → ∃ k, find_rising.f k l0 a1 = some true
theorem find_rising.walk (P : find_rising.Pure) (a0 : Option Addr) (len0 cap0 : Nat) (z0 : List Int) (a1 : Int) (w : World) (w0 : (a0 = none ∧ len0 = 0 ∧ cap0 = 0 ∧ z0 = []) ∨ ∃ x, a0 = some x ∧ len0 ≤ cap0 ∧ cap0 ≤ maxLen ∧ z0.length = cap0 ∧ (∀ i, i < z0.length → w.cell? (x.add i) = some (.int .i64 (z0.getD i 0))) ∧ ∀ n ∈ z0, (Lit.int .i64 n).wf = true) (y0 : len0 * 8 ≤ 140737488351232) (w1 : (Lit.int .i64 a1).wf = true) :
    Calls Tryd.prog 54 #[.slice a0 len0 cap0, .int .i64 a1] w fun e w' => e = .returned (.bool true) ∧ Below w.heap.size w w' := by
  obtain ⟨l0, rfl, hr0, hm0, hw0, hc0⟩ := ReadsInt.ofRowC w0
  obtain ⟨k, h⟩ := P l0 a1 hm0 y0 hw0 w1
  refine (find_rising.calls k _ _ l0 a1 true w (Kd.C_of_reads (d := (0 : Int)) (h1 := fun _ => rfl) hr0) hc0 h).mono ?_
  rintro e w' ⟨rfl, hd⟩
  exact ⟨rfl, hd.below⟩

end Go.Proofs.YtglajokjiphafaaDoor.P

namespace Go.Proofs
open Go.Shelf
shelf_try shelf_lay Lays.n128 Nm 128 at Tryd as Tryd.lays128
shelf_try /-- bits.Len32: "Len32 returns the minimum number of bits required to represent x; the result is 0 for x == 0.": IT RETURNS 'Lib.bitLen x'; the world is as it was. ('h0', 'h1': x is a uint32.) (LAID: no walk: one application.) -/
theorem Tryd.bits_Len32 (x : Int) (w : World) (h0 : 0 ≤ x) (h1 : x ≤ 4294967295) :
    Calls Tryd.prog 87 #[.int .u32 x] w fun e w' => e = .returned (.int .i64 (Lib.bitLen x.toNat)) ∧ w' = w := Any.bits_Len32 Tryd.lays128 x w h0 h1
shelf_try #print axioms Tryd.bits_Len32
shelf_try shelf_lay Lays.n125 Nm 125 at Tryd as Tryd.lays125
shelf_try /-- bits.Len: "Len returns the minimum number of bits required to represent x; the result is 0 for x == 0.": IT RETURNS 'Lib.bitLen x'; the world is as it was. (A uint has 64 bits in the model.) ITS CALLEE bits.Len64 IS MET BY ITS OWN CONTRACT OFF THE SHELF (lay that first). (LAID: no walk: one application.) -/
theorem Tryd.bits_Len (x : Int) (w : World) (h0 : 0 ≤ x) (h1 : x ≤ 18446744073709551615) :
    Calls Tryd.prog 61 #[.int .u64 x] w fun e w' => e = .returned (.int .i64 (Lib.bitLen x.toNat)) ∧ w' = w := Any.bits_Len Tryd.lays125 x w h0 h1
shelf_try #print axioms Tryd.bits_Len
shelf_try shelf_lay Lays.n215 Nm 215 at Tryd as Tryd.lays215
shelf_try open Go.RowKit in
/-- cmp.isNaN at int: 'x != x': false. (LAID: no walk: one application.) -/
theorem Tryd.cmp_isNaN_int (x : Int) (w : World) :
    Calls Tryd.prog 105 #[.int .i64 x] w fun e w' => e = .returned (.bool false) ∧ w' = w := Any.cmp_isNaN_int Tryd.lays215 x w
shelf_try #print axioms Tryd.cmp_isNaN_int
shelf_try shelf_lay Lays.n122 Nm 122 at Tryd as Tryd.lays122
shelf_try open Go.RowKit in
/-- cmp.Compare at int: "Compare returns -1 if x is less than y, 0 if x equals y, +1 if x is greater than y.": IT RETURNS 'Lib.compareInt x y'; the world is as it was. (LAID: no walk: one application.) -/
theorem Tryd.cmp_Compare_int (x y : Int) (w : World) :
    Calls Tryd.prog 90 #[.int .i64 x, .int .i64 y] w fun e w' => e = .returned (.int .i64 (Lib.compareInt x y)) ∧ w' = w := Any.cmp_Compare_int Tryd.lays122 x y w
shelf_try #print axioms Tryd.cmp_Compare_int
shelf_try shelf_lay Lays.n129 Nm 129 at Tryd as Tryd.lays129
shelf_try /-- bits.Len64: "Len64 returns the minimum number of bits required to represent x; the result is 0 for x == 0.": IT RETURNS 'Lib.bitLen x'; the world is as it was. ('h0', 'h1': x is a uint64.) (LAID: no walk: one application.) -/
theorem Tryd.bits_Len64 (x : Int) (w : World) (h0 : 0 ≤ x) (h1 : x ≤ 18446744073709551615) :
    Calls Tryd.prog 88 #[.int .u64 x] w fun e w' => e = .returned (.int .i64 (Lib.bitLen x.toNat)) ∧ w' = w := Any.bits_Len64 Tryd.lays129 x w h0 h1
shelf_try #print axioms Tryd.bits_Len64
shelf_try shelf_lay Lays.n189 Nm 189 at Tryd as Tryd.lays189
shelf_try open Go.Sort Go.RowKit in
theorem Tryd.slices_Sort_int (blk off cap : Nat) (zs : List Int) (w : World) (hH : Holds (Value.int .i64) w blk off zs.toArray) (hblk : blk < w.heap.size) (hsz : zs.length < 4611686018427387904) :
    Calls Tryd.prog 71 #[.slice (some ⟨blk, off, none⟩) zs.length cap] w fun e w' =>
      e = .returned (.tuple #[]) ∧ ∃ n os, w' = grow (putRow (Value.int .i64) (Sort.ahead w n) blk off (zs.mergeSort fun x y => decide (x ≤ y)).toArray) os := Any.slices_Sort_int Tryd.lays189 blk off cap zs w hH hblk hsz
shelf_try #print axioms Tryd.slices_Sort_int
shelf_try shelf_lay Lays.n108 Nm 108 at Tryd as Tryd.lays108
shelf_try open Go.Lib in
/-- slices.Index at []int: "Index returns the index of the first occurrence of v in s, or -1 if not present.": IT RETURNS 'Lib.idxOf (the elements) v'; the world is as it was. 'zs': what the cells behind the slice's address hold (its spare capacity too, if you have it); 'zs.take n': its elements. (LAID: no walk: one application.) -/
theorem Tryd.slices_Index_int (b off n c : Nat) (zs : List Int) (x : Int) (w : World) (hz : n ≤ zs.length) (hbig : n ≤ 9223372036854775807) (hc : ∀ j, j < zs.length → w.cell? ⟨b, off + j, none⟩ = some (.int .i64 (zs.getD j 0))) :
    Calls Tryd.prog 78 #[.slice (some ⟨b, off, none⟩) n c, .int .i64 x] w fun e w' => e = .returned (.int .i64 (Lib.idxOf (zs.take n) x)) ∧ w' = w := Any.slices_Index_int Tryd.lays108 b off n c zs x w hz hbig hc
shelf_try #print axioms Tryd.slices_Index_int
shelf_try open Go.Lib in
/-- The same at a slice of length 0, a nil one too: no cell is known, none is asked for. (LAID: no walk: one application.) -/
theorem Tryd.slices_Index_int_empty (a : Option Addr) (c : Nat) (x : Int) (w : World) :
    Calls Tryd.prog 78 #[.slice a 0 c, .int .i64 x] w fun e w' => e = .returned (.int .i64 (Lib.idxOf [] x)) ∧ w' = w := Any.slices_Index_int_empty Tryd.lays108 a c x w
shelf_try #print axioms Tryd.slices_Index_int_empty
shelf_try shelf_lay Lays.n107 Nm 107 at Tryd as Tryd.lays107
shelf_try open Go.Lib in
/-- slices.Contains at []int: "Contains reports whether v is present in s.": IT RETURNS 'elements.contains v'; the world is as it was. ITS CALLEE slices.Index IS MET BY ITS OWN CONTRACT OFF THE SHELF (lay that first): no loop is walked here. (LAID: no walk: one application.) -/
theorem Tryd.slices_Contains_int (b off n c : Nat) (zs : List Int) (x : Int) (w : World) (hz : n ≤ zs.length) (hbig : n ≤ 9223372036854775807) (hc : ∀ j, j < zs.length → w.cell? ⟨b, off + j, none⟩ = some (.int .i64 (zs.getD j 0))) :
    Calls Tryd.prog 47 #[.slice (some ⟨b, off, none⟩) n c, .int .i64 x] w fun e w' => e = .returned (.bool ((zs.take n).contains x)) ∧ w' = w := Any.slices_Contains_int Tryd.lays107 b off n c zs x w hz hbig hc
shelf_try #print axioms Tryd.slices_Contains_int
shelf_try open Go.Lib in
/-- The same at a slice of length 0, a nil one too. (LAID: no walk: one application.) -/
theorem Tryd.slices_Contains_int_empty (a : Option Addr) (c : Nat) (x : Int) (w : World) :
    Calls Tryd.prog 47 #[.slice a 0 c, .int .i64 x] w fun e w' => e = .returned (.bool false) ∧ w' = w := Any.slices_Contains_int_empty Tryd.lays107 a c x w
shelf_try #print axioms Tryd.slices_Contains_int_empty
shelf_try shelf_lay Lays2.n15 Nm2 15 at Tryd as Tryd.laysNm215
shelf_try open Go.RowKit Go.Lib in
/-- slices.Clone at []int: "Clone returns a copy of the slice. The elements are copied using assignment, so this is a shallow clone. The result may have additional unused capacity. The result preserves the nilness of s.": OF A SLICE THAT IS NOT nil IT RETURNS A SLICE THAT IS NOT nil, OF THE SAME ELEMENTS, IN MEMORY OF THE CALL's OWN: in the how-to's words (6f): 'w'.ownsRow B e 1 v' n cells': v' begins at the head of a row among the blocks from B on (B: the heap's size at the call), not frozen, whose first cells are the elements · 'Below B w w'': below B all is as it was. The capacity is whatever the run-time gives. 'zs': what the cells behind the slice's address hold; 'zs.take n': its elements. (LAID: no walk: one application.) -/
theorem Tryd.slices_Clone_int (b off n c : Nat) (zs : List Int) (w : World) (hz : n ≤ zs.length) (hbig : n * 8 ≤ 140737488355328) (hc : ∀ j, j < zs.length → w.cell? ⟨b, off + j, none⟩ = some (.int .i64 (zs.getD j 0))) :
    Calls Tryd.prog 69 #[.slice (some ⟨b, off, none⟩) n c] w fun e w' => ∃ v', e = .returned v' ∧ w'.ownsRow w.heap.size 3 1 v' n ((zs.take n).map (Value.int .i64)) ∧ v' ≠ .slice none 0 0 ∧ Below w.heap.size w w' := Any.slices_Clone_int Tryd.laysNm215 b off n c zs w hz hbig hc
shelf_try #print axioms Tryd.slices_Clone_int
shelf_try open Go.RowKit Go.Lib in
/-- The same at nil: nil comes back; the world is as it was. (LAID: no walk: one application.) -/
theorem Tryd.slices_Clone_int_nil (n c : Nat) (w : World) :
    Calls Tryd.prog 69 #[.slice none n c] w fun e w' => e = .returned (.slice none 0 0) ∧ w' = w := Any.slices_Clone_int_nil Tryd.laysNm215 n c w
shelf_try #print axioms Tryd.slices_Clone_int_nil
shelf_try open Go.RowKit Go.Lib in
/-- The same at a slice of length 0 that is not nil, WHATEVER ITS ADDRESS (no cell is asked for): a slice that is not nil and owns nothing comes back. (LAID: no walk: one application.) -/
theorem Tryd.slices_Clone_int_zero (a : Addr) (c : Nat) (w : World) :
    Calls Tryd.prog 69 #[.slice (some a) 0 c] w fun e w' => ∃ v', e = .returned v' ∧ w'.ownsRow w.heap.size 3 1 v' 0 [] ∧ v' ≠ .slice none 0 0 ∧ Below w.heap.size w w' := Any.slices_Clone_int_zero Tryd.laysNm215 a c w
shelf_try #print axioms Tryd.slices_Clone_int_zero
shelf_try shelf_lay Lays2.n20 Nm2 20 at Tryd as Tryd.laysNm220
shelf_try open Go.RowKit Go.Lib Go.Sort in
/-- slices.Compact at []int, over an array: the library's two loops are walked. (LAID: no walk: one application.) -/
theorem Tryd.slices_Compact_int_arr (blk off cap : Nat) (d : Array Int) (w : World) (hH : Holds encI w blk off d) (hsz : d.size ≤ 9223372036854775807) (hcap : d.size ≤ cap) :
    Calls Tryd.prog 72 #[.slice (some ⟨blk, off, none⟩) d.size cap] w fun e w' => e = .returned (.slice (some ⟨blk, off, none⟩) (compactUpTo d d.size).length cap) ∧ ∃ q, w' = putRow encI (Sort.ahead w q) blk off (compactUpTo d d.size ++ List.replicate (d.size - (compactUpTo d d.size).length) 0).toArray := Any.slices_Compact_int_arr Tryd.laysNm220 blk off cap d w hH hsz hcap
shelf_try #print axioms Tryd.slices_Compact_int_arr
shelf_try open Go.RowKit Go.Lib Go.Sort in
/-- slices.Compact at []int: "Compact replaces consecutive runs of equal elements with a single copy. This is like the uniq command found on Unix. Compact modifies the contents of the slice s and returns the modified slice, which may have a smaller length. Compact zeroes the elements between the new length and the original length. The result preserves the nilness of s.": IT RETURNS THE SLICE CUT TO 'Lib.compact zs'; ITS CELLS HOLD 'Lib.compact zs', THEN ZERO VALUES up to the old length; all else is as it was, but for the count of draws. IN THE WORDS OF slices.Sort's CONTRACT ('Holds', 'putRow'): so the everyday 'slices.Sort(xs); xs = slices.Compact(xs)' goes from the one contract to the other. It asks 'zs.length ≤ cap' (every slice's: the reslicing 's[:k]' looks at it). Length 0, nil: '.._empty'. (LAID: no walk: one application.) -/
theorem Tryd.slices_Compact_int (blk off cap : Nat) (zs : List Int) (w : World) (hH : Holds (Value.int .i64) w blk off zs.toArray) (hsz : zs.length ≤ 9223372036854775807) (hcap : zs.length ≤ cap) :
    Calls Tryd.prog 72 #[.slice (some ⟨blk, off, none⟩) zs.length cap] w fun e w' => e = .returned (.slice (some ⟨blk, off, none⟩) (Lib.compact zs).length cap) ∧ ∃ q, w' = putRow (Value.int .i64) (Sort.ahead w q) blk off (Lib.compact zs ++ List.replicate (zs.length - (Lib.compact zs).length) 0).toArray := Any.slices_Compact_int Tryd.laysNm220 blk off cap zs w hH hsz hcap
shelf_try #print axioms Tryd.slices_Compact_int
shelf_try open Go.RowKit Go.Lib Go.Sort in
/-- The same at a slice of length 0, a nil one too: it comes back as it is. (LAID: no walk: one application.) -/
theorem Tryd.slices_Compact_int_empty (a : Option Addr) (cap : Nat) (w : World) :
    Calls Tryd.prog 72 #[.slice a 0 cap] w fun e w' => e = .returned (.slice a 0 cap) ∧ w' = w := Any.slices_Compact_int_empty Tryd.laysNm220 a cap w
shelf_try #print axioms Tryd.slices_Compact_int_empty
shelf_try shelf_lay Lays2.n37 Nm2 37 at Tryd as Tryd.laysNm237
shelf_try open Go.RowKit Go.Lib in
/-- cmp.isNaN[int]: 'x != x': false. (LAID: no walk: one application.) -/
theorem Tryd.cmp_isNaN_int2 (x : Int) (w : World) :
    Calls Tryd.prog 105 #[.int .i64 x] w fun e w' => e = .returned (.bool false) ∧ w' = w := Any.cmp_isNaN_int2 Tryd.laysNm237 x w
shelf_try #print axioms Tryd.cmp_isNaN_int2
shelf_try shelf_lay Lays2.n31 Nm2 31 at Tryd as Tryd.laysNm231
shelf_try open Go.RowKit Go.Lib in
/-- cmp.Less[int]: "Less reports whether x is less than y.": 'x < y'; the world is as it was. (LAID: no walk: one application.) -/
theorem Tryd.cmp_Less_int2 (x y : Int) (w : World) :
    Calls Tryd.prog 112 #[.int .i64 x, .int .i64 y] w fun e w' => e = .returned (.bool (decide (x < y))) ∧ w' = w := Any.cmp_Less_int2 Tryd.laysNm231 x y w
shelf_try #print axioms Tryd.cmp_Less_int2
shelf_try open Go.RowKit Go.Lib Go.Sort in
/-- slices.Compact at []int, of an argument: the slice cut to 'Lib.compact (elements)'; the n cells hold that, then zeros. (LAID: no walk: one application.) -/
theorem Tryd.slices_Compact_int_cells (b off n c : Nat) (zs : List Int) (w : World) (hz : n ≤ zs.length) (hbig : n ≤ 9223372036854775807) (hcap : n ≤ c) (hc : ∀ j, j < zs.length → w.cell? ⟨b, off + j, none⟩ = some (.int .i64 (zs.getD j 0))) (hf : ∀ j, j < n → w.frozen? ⟨b, off + j, none⟩ = false) :
    Calls Tryd.prog 72 #[.slice (some ⟨b, off, none⟩) n c] w fun e w' => e = .returned (.slice (some ⟨b, off, none⟩) (Lib.compact (zs.take n)).length c) ∧ ∃ q, w' = (w.drewN q).setCells b off ((Lib.compact (zs.take n) ++ List.replicate (n - (Lib.compact (zs.take n)).length) 0).map (Value.int .i64)) := Any.slices_Compact_int_cells Tryd.laysNm220 b off n c zs w hz hbig hcap hc hf
shelf_try #print axioms Tryd.slices_Compact_int_cells
shelf_try open Go.RowKit Go.Sort in
/-- .. and plain. (LAID: no walk: one application.) -/
theorem Tryd.slices_Sort_int_none (p : Option Addr) (cap : Nat) (w : World) :
    Calls Tryd.prog 71 #[.slice p 0 cap] w fun e w' => e = .returned (.tuple #[]) ∧ w' = w := Any.slices_Sort_int_none Tryd.lays189 p cap w
shelf_try #print axioms Tryd.slices_Sort_int_none
shelf_try shelf_lay_g SlLaysE.n43 Slgn 43 at Tryd 72 as Tryd.laysSlE43_f72
shelf_try open Go.RowKit Go.Lib Go.Sort in
/-- slices.Compact: "Compact replaces consecutive runs of equal elements with a single copy. .. Compact zeroes the elements between the new length and the original length.": IT RETURNS THE SLICE CUT TO 'compactUpTo d d.size'; ITS CELLS HOLD THAT, THEN ZERO VALUES up to the old length; the library's two loops are walked. (LAID AT THE INSTANCE 'slices.Compact[[]int,int]': no walk: one application.) -/
theorem Tryd.slices_Compact {α : Type} [Inhabited α] [DecidableEq α] (enc : α → Value) (hO : OneCell enc) (heq : EqlAt Tryd.prog 3 enc (fun x y => decide (x = y))) (hne : NeqAt Tryd.prog 3 enc (fun x y => decide (x = y))) (zr : α) (v23 : ∀ w, (zeroValue 3).run Tryd.prog w = .ok (enc zr) w) (blk off cap : Nat) (d : Array α) (w : World) (hH : Holds enc w blk off d) (hsz : d.size ≤ 9223372036854775807) (hcap : d.size ≤ cap) :
    Calls Tryd.prog 72 #[.slice (some ⟨blk, off, none⟩) d.size cap] w fun e w' => e = .returned (.slice (some ⟨blk, off, none⟩) (compactUpTo d d.size).length cap) ∧ ∃ q, w' = putRow enc (Sort.ahead w q) blk off (compactUpTo d d.size ++ List.replicate (d.size - (compactUpTo d d.size).length) zr).toArray := AnyE.slices_Compact Tryd.laysSlE43_f72 enc hO heq hne zr v23 blk off cap d w hH hsz hcap
shelf_try #print axioms Tryd.slices_Compact
shelf_try shelf_lay_g SlLaysE0.n41 Slgn 41 at Tryd 69 as Tryd.laysSlE041_f69
shelf_try open Go.RowKit Go.Lib in
/-- slices.Clone: "Clone returns a copy of the slice. The elements are copied using assignment, so this is a shallow clone. The result may have additional unused capacity. The result preserves the nilness of s.": OF A SLICE THAT IS NOT nil IT RETURNS A SLICE THAT IS NOT nil, OF THE SAME CELLS, IN MEMORY OF THE CALL's OWN ('ownsRow': the how-to's 6f); below the heap's size at the call all is as it was. (LAID AT THE INSTANCE 'slices.Clone[[]int,int]': no walk: one application.) -/
theorem Tryd.slices_Clone (i0 : TypeInfo) (z : Value) (size bytes : Nat) (hi : Tryd.prog.info? 3 = some i0) (hz0 : i0.zero = some z) (hz1 : i0.size = size) (hz2 : i0.bytes = bytes) (hzs : z.cells.size = size) (hsz : 0 < size) (z23 : ∀ w, (Go.sizeOf 3).run Tryd.prog w = .ok size w) (b off n c : Nat) (news : List Value) (w : World) (hl : news.length = n * size) (hn : n ≤ maxLen) (hbig : n * bytes ≤ 140737488355328) (hc : ∀ j u, news[j]? = some u → w.cell? ⟨b, off + j, none⟩ = some u) (h1 : ∀ u ∈ news, u.oneCell' = true) :
    Calls Tryd.prog 69 #[.slice (some ⟨b, off, none⟩) n c] w fun e w' => ∃ v', e = .returned v' ∧ w'.ownsRow w.heap.size 3 size v' n news ∧ v' ≠ .slice none 0 0 ∧ Below w.heap.size w w' := AnyE.slices_Clone Tryd.laysSlE041_f69 i0 z size bytes hi hz0 hz1 hz2 hzs hsz z23 b off n c news w hl hn hbig hc h1
shelf_try #print axioms Tryd.slices_Clone
shelf_try open Go.RowKit Go.Lib in
/-- The same at nil: nil comes back; the world is as it was; nothing is asked of the element's type. (LAID AT THE INSTANCE 'slices.Clone[[]int,int]': no walk: one application.) -/
theorem Tryd.slices_Clone_nil (n c : Nat) (w : World) :
    Calls Tryd.prog 69 #[.slice none n c] w fun e w' => e = .returned (.slice none 0 0) ∧ w' = w := AnyE.slices_Clone_nil Tryd.laysSlE041_f69 n c w
shelf_try #print axioms Tryd.slices_Clone_nil
shelf_try shelf_lay_g SlLaysH.n6 Slgf 6 at Tryd 91 as Tryd.laysSlH6_f91
shelf_try open Go.RowKit Go.Lib in
/-- slices.IndexFunc: "IndexFunc returns the first index i satisfying f(s[i]), or -1 if none do." (LAID AT THE INSTANCE 'slices.IndexFunc[[]int,int]': no walk: one application.) -/
theorem Tryd.slices_IndexFunc_f91 {α : Type} [Inhabited α] (enc : α → Value) (p : α → Bool) (g : Nat) (lb : Array Value) (eg : ∀ args w, (callFunc g args).run Tryd.prog w = .ok (.enter g args) w) (b off n c : Nat) (zs : List α) (w : World) (hp : PredAt Tryd.prog g lb enc p w) (hz : n ≤ zs.length) (hbig : n ≤ 9223372036854775807) (hc : ∀ j, j < zs.length → w.cell? ⟨b, off + j, none⟩ = some (enc zs[j]!)) :
    Calls Tryd.prog 91 #[.slice (some ⟨b, off, none⟩) n c, .func (.func g) #[] lb] w fun e w' => e = .returned (.int .i64 (Lib.idxBy (fun _ y => p y) (zs.take n) default)) ∧ ∃ q, w' = w.drewN q := AnyE.slices_IndexFunc Tryd.laysSlH6_f91 enc p g lb eg b off n c zs w hp hz hbig hc
shelf_try #print axioms Tryd.slices_IndexFunc_f91
shelf_try shelf_lay_g SlLaysH.n6 Slgf 6 at Tryd 93 as Tryd.laysSlH6_f93
shelf_try open Go.RowKit Go.Lib in
/-- slices.IndexFunc: "IndexFunc returns the first index i satisfying f(s[i]), or -1 if none do." (LAID AT THE INSTANCE 'slices.IndexFunc[[][]int,[]int]': no walk: one application.) -/
theorem Tryd.slices_IndexFunc_f93 {α : Type} [Inhabited α] (enc : α → Value) (p : α → Bool) (g : Nat) (lb : Array Value) (eg : ∀ args w, (callFunc g args).run Tryd.prog w = .ok (.enter g args) w) (b off n c : Nat) (zs : List α) (w : World) (hp : PredAt Tryd.prog g lb enc p w) (hz : n ≤ zs.length) (hbig : n ≤ 9223372036854775807) (hc : ∀ j, j < zs.length → w.cell? ⟨b, off + j, none⟩ = some (enc zs[j]!)) :
    Calls Tryd.prog 93 #[.slice (some ⟨b, off, none⟩) n c, .func (.func g) #[] lb] w fun e w' => e = .returned (.int .i64 (Lib.idxBy (fun _ y => p y) (zs.take n) default)) ∧ ∃ q, w' = w.drewN q := AnyE.slices_IndexFunc Tryd.laysSlH6_f93 enc p g lb eg b off n c zs w hp hz hbig hc
shelf_try #print axioms Tryd.slices_IndexFunc_f93
shelf_try open Go.RowKit Go.Lib in
/-- The same at a slice of length 0, a nil one too: the predicate is not called: nothing is asked of it. (LAID AT THE INSTANCE 'slices.IndexFunc[[]int,int]': no walk: one application.) -/
theorem Tryd.slices_IndexFunc_empty_f91 {α : Type} [Inhabited α] (a : Option Addr) (c : Nat) (fv : Value) (w : World) :
    Calls Tryd.prog 91 #[.slice a 0 c, fv] w fun e w' => e = .returned (.int .i64 (-1)) ∧ w' = w := AnyE.slices_IndexFunc_empty Tryd.laysSlH6_f91 a c fv w
shelf_try #print axioms Tryd.slices_IndexFunc_empty_f91
shelf_try open Go.RowKit Go.Lib in
/-- The same at a slice of length 0, a nil one too: the predicate is not called: nothing is asked of it. (LAID AT THE INSTANCE 'slices.IndexFunc[[][]int,[]int]': no walk: one application.) -/
theorem Tryd.slices_IndexFunc_empty_f93 {α : Type} [Inhabited α] (a : Option Addr) (c : Nat) (fv : Value) (w : World) :
    Calls Tryd.prog 93 #[.slice a 0 c, fv] w fun e w' => e = .returned (.int .i64 (-1)) ∧ w' = w := AnyE.slices_IndexFunc_empty Tryd.laysSlH6_f93 a c fv w
shelf_try #print axioms Tryd.slices_IndexFunc_empty_f93
shelf_try shelf_lay_g SlLaysH.n8 Slgf 8 at Tryd 74 as Tryd.laysSlH8_f74
shelf_try open Go.RowKit Go.Lib in
/-- slices.ContainsFunc: "ContainsFunc reports whether at least one element e of s satisfies f(e).": ITS CALLEE slices.IndexFunc IS MET BY ITS OWN CONTRACT. (LAID AT THE INSTANCE 'slices.ContainsFunc[[][]int,[]int]': no walk: one application.) -/
theorem Tryd.slices_ContainsFunc {α : Type} [Inhabited α] (enc : α → Value) (p : α → Bool) (g : Nat) (lb : Array Value) (eg : ∀ args w, (callFunc g args).run Tryd.prog w = .ok (.enter g args) w) (b off n c : Nat) (zs : List α) (w : World) (hp : PredAt Tryd.prog g lb enc p w) (hz : n ≤ zs.length) (hbig : n ≤ 9223372036854775807) (hc : ∀ j, j < zs.length → w.cell? ⟨b, off + j, none⟩ = some (enc zs[j]!)) :
    Calls Tryd.prog 74 #[.slice (some ⟨b, off, none⟩) n c, .func (.func g) #[] lb] w fun e w' => e = .returned (.bool ((zs.take n).any p)) ∧ ∃ q, w' = w.drewN q := AnyE.slices_ContainsFunc Tryd.laysSlH8_f74 enc p g lb eg b off n c zs w hp hz hbig hc
shelf_try #print axioms Tryd.slices_ContainsFunc
shelf_try open Go.RowKit Go.Lib in
/-- The same at a slice of length 0, a nil one too. (LAID AT THE INSTANCE 'slices.ContainsFunc[[][]int,[]int]': no walk: one application.) -/
theorem Tryd.slices_ContainsFunc_empty {α : Type} [Inhabited α] (a : Option Addr) (c : Nat) (fv : Value) (w : World) :
    Calls Tryd.prog 74 #[.slice a 0 c, fv] w fun e w' => e = .returned (.bool false) ∧ w' = w := AnyE.slices_ContainsFunc_empty Tryd.laysSlH8_f74 a c fv w
shelf_try #print axioms Tryd.slices_ContainsFunc_empty
shelf_try shelf_lay_g SlLaysH.n10 Slgf 10 at Tryd 68 as Tryd.laysSlH10_f68
shelf_try open Go.RowKit Go.Lib Go.Sort in
theorem Tryd.slices_DeleteFunc {α : Type} [Inhabited α] (enc : α → Value) (hO : OneCell enc) (p : α → Bool) (g : Nat) (lb : Array Value) (eg : ∀ args w, (callFunc g args).run Tryd.prog w = .ok (.enter g args) w) (zr : α) (v23 : ∀ w, (zeroValue 3).run Tryd.prog w = .ok (enc zr) w) (blk off cap : Nat) (d : Array α) (w : World) (hp : PredAt Tryd.prog g lb enc p w) (hpo : PredOver Tryd.prog g lb enc p blk off d.size w) (hH : Holds enc w blk off d) (hsz : d.size ≤ 9223372036854775807) (hcap : d.size ≤ cap) :
    Calls Tryd.prog 68 #[.slice (some ⟨blk, off, none⟩) d.size cap, .func (.func g) #[] lb] w fun e w' => e = .returned (.slice (some ⟨blk, off, none⟩) (d.toList.filter fun x => !p x).length cap) ∧ ∃ q, w' = putRow enc (Sort.ahead w q) blk off ((d.toList.filter fun x => !p x) ++ List.replicate (d.size - (d.toList.filter fun x => !p x).length) zr).toArray := AnyE.slices_DeleteFunc Tryd.laysSlH10_f68 enc hO p g lb eg zr v23 blk off cap d w hp hpo hH hsz hcap
shelf_try #print axioms Tryd.slices_DeleteFunc
shelf_tried
end Go.Proofs

set_option linter.unusedSimpArgs false
set_option linter.unusedVariables false
namespace Go.Proofs.YtglajokjiphafaaDoor.P
open Go.Lib Go.RowKit Go.Proofs.YtglajokjiphafaaDoorW.PrintWords Go.Proofs.YtglajokjiphafaaDoorW.PrintLast Go.Proofs.YtglajokjiphafaaDoorW.PrintMore Go.Proofs.YtglajokjiphafaaDoor.Kit
attribute [local go_sem] max2_int min2_int max_two min_two max_three min_three max_four min_four

/-- Numbers that ascend strictly, from 0 to one less than n. -/
def risStep (n : Int) (l : List Int) (i : Nat) : Bool := decide (0 ≤ rd l (i : Int)) && (decide (rd l (i : Int) < n) && (decide (i = 0) || decide (rd l ((i - 1 : Nat) : Int) < rd l (i : Int))))
def risFrom (n : Int) (l : List Int) : Nat → Nat → Bool
  | 0, _ => true
  | d + 1, i => risStep n l i && risFrom n l d (i + 1)
def risB (n : Int) (l : List Int) : Bool := risFrom n l l.length 0
theorem rising_l0 (n : Int) (l : List Int) (hl : l.length ≤ 9223372036854775807) : ∀ d i k, l.length - i = d → i ≤ l.length → d < k → find_rising.l0 k l n l (l.length : Int) (i : Int) = some (risFrom n l d i) := by
  intro d
  induction d with
  | zero =>
    intro i k hd hi hk
    obtain ⟨k, rfl⟩ : ∃ j, k = j + 1 := ⟨k - 1, by omega⟩
    simp only [find_rising.l0]
    rw [if_neg (by omega)]
    rfl
  | succ d ih =>
    intro i k hd hi hk
    obtain ⟨k, rfl⟩ : ∃ j, k = j + 1 := ⟨k - 1, by omega⟩
    have hw : ∀ _ : Unit, wrap64 ((i : Int) + 1) = ((i + 1 : Nat) : Int) := fun _ => by rw [w64 (by omega) (by omega)]; omega
    have h1 := ih (i + 1) k (by omega) (by omega) (by omega)
    simp only [find_rising.l0, risFrom, risStep]
    rw [if_pos (by omega), if_pos (by omega), if_pos (by omega)]
    by_cases c1 : rd l (i : Int) < 0
    · rw [if_pos c1, decide_eq_false (by omega)]
      rfl
    · rw [if_neg c1, decide_eq_true (by omega), Bool.true_and]
      by_cases c2 : rd l (i : Int) ≥ n
      · rw [if_pos c2, decide_eq_false (by omega)]
        rfl
      · rw [if_neg c2, decide_eq_true (by omega), Bool.true_and]
        by_cases c3 : i = 0
        · rw [if_neg (by omega), decide_eq_true c3, Bool.true_or, Bool.true_and, hw ()]
          exact h1
        · have hw2 : ∀ _ : Unit, wrap64 ((i : Int) - 1) = ((i - 1 : Nat) : Int) := fun _ => by rw [w64 (by omega) (by omega)]; omega
          rw [if_pos (by omega), hw2 (), if_pos (by omega), if_pos (by omega), decide_eq_false c3, Bool.false_or, hw ()]
          by_cases c4 : rd l (i : Int) ≤ rd l ((i - 1 : Nat) : Int)
          · rw [if_pos c4, decide_eq_false (by omega)]
            rfl
          · rw [if_neg c4, decide_eq_true (by omega), Bool.true_and]
            exact h1
theorem rising_f (n : Int) (l : List Int) (hl : l.length ≤ 9223372036854775807) (k : Nat) (hk : l.length < k) : find_rising.f k l n = some (risB n l) := by
  unfold find_rising.f
  exact rising_l0 n l hl l.length 0 k (by omega) (by omega) hk

/-- A row of numbers that lies in memory. -/
structure RowIn (w : World) where
  l : List Int
  A : Option Addr
  c : Nat
  ok : Kd.C (Kd.int .i64) w A l.length l
  le : l.length ≤ c
instance rowInh (w : World) : Inhabited (RowIn w) := ⟨⟨[], none, 0, ⟨rfl, by decide, fun h => absurd h (by decide)⟩, Nat.le_refl _⟩⟩
def rowEnc {w : World} (r : RowIn w) : Value := .slice r.A r.l.length r.c
theorem choose_list {α : Type} [Inhabited α] (p : Nat → α → Prop) : ∀ n, (∀ j, j < n → ∃ r, p j r) → ∃ rs : List α, rs.length = n ∧ ∀ j, j < n → p j rs[j]! := by
  intro n
  induction n with
  | zero => intro _; exact ⟨[], rfl, fun j hj => by omega⟩
  | succ n ih =>
    intro h
    obtain ⟨rs, h1, h2⟩ := ih (fun j hj => h j (by omega))
    obtain ⟨r, hr⟩ := h n (by omega)
    refine ⟨rs ++ [r], by rw [List.length_append, h1]; rfl, fun j hj => ?_⟩
    by_cases e : j < n
    · have := h2 j e
      rw [getElem!_pos rs j (by omega)] at this
      rw [getElem!_pos _ j (by rw [List.length_append, h1]; simp; omega), List.getElem_append_left (by omega)]
      exact this
    · obtain rfl : j = n := by omega
      rw [getElem!_pos _ j (by rw [List.length_append, h1]; simp), List.getElem_append_right (by omega)]
      simpa [h1] using hr
theorem rows_in {w : World} {A : Option Addr} {ls : List (List Int)} (hr : Kd.C (Kd.slice 3 (Kd.int .i64)) w A ls.length ls) (h0 : 0 < ls.length) :
    ∃ b off, A = some ⟨b, off, none⟩ ∧ ∃ rs : List (RowIn w), rs.length = ls.length ∧ rs.map (·.l) = ls ∧ ∀ j, j < rs.length → w.cell? ⟨b, off + j, none⟩ = some (rowEnc rs[j]!) := by
  obtain ⟨ad, A0, c0, e0, hx0, _, _⟩ := at_L1 hr 0 (by omega) (by omega)
  have hs : ad.spot = none := by
    have hadd : ad.add (Int.toNat 0) = ad := by simp [Addr.add]
    rw [hadd] at hx0
    unfold World.cell? at hx0
    split at hx0
    · split at hx0
      · cases hx0
      · rename_i h; simpa using h
    · cases hx0
  have hadd : ∀ j, ad.add j = ⟨ad.block, ad.off + j, none⟩ := fun j => by
    obtain ⟨bb, oo, ss⟩ := ad
    dsimp only at hs
    subst hs
    unfold Addr.add
    by_cases e : j = 0
    · rw [if_pos e, e]; rfl
    · rw [if_neg e]
  obtain ⟨rs, h1, h2⟩ := choose_list (α := RowIn w) (fun j r => r.l = rd_L1 ls (j : Int) ∧ w.cell? ⟨ad.block, ad.off + j, none⟩ = some (rowEnc r)) ls.length (fun j hj => by
    obtain ⟨ad', A', c', e', hx, hle, hok⟩ := at_L1 hr (j : Int) (by omega) (by omega)
    rw [e0] at e'
    injection e' with e'
    subst e'
    rw [Int.toNat_natCast, hadd] at hx
    exact ⟨⟨_, A', c', hok, hle⟩, rfl, hx⟩)
  refine ⟨ad.block, ad.off, by rw [e0]; cases ad; simp_all, rs, h1, ?_, fun j hj => (h2 j (by omega)).2⟩
  refine List.ext_getElem (by rw [List.length_map, h1]) (fun j a b => ?_)
  rw [List.length_map] at a
  have := (h2 j b).1
  rw [getElem!_pos rs j (by omega)] at this
  rw [List.getElem_map, this]
  unfold rd_L1
  simp [b]
def ofN (n : Int) (d : List (List Int)) : Int := if 1 ≤ n ∧ n ≤ 49 then (if d.length ≤ 60 then (if d.all (risB n) = true then 0 else 2) else 3) else 2
set_option maxHeartbeats 4000000
set_option maxRecDepth 100000
theorem of1_pred (n : Int) (B : Nat) (w0 w : World) (hw0 : Below w0.heap.size w0 w) (hc : w.cell? ⟨B, 0, none⟩ = some (.int .i64 n)) (hlt : B < w.heap.size) :
    PredAt Tryd.prog 75 #[.pointer (some ⟨B, 0, none⟩)] (fun r : RowIn w0 => rowEnc r) (fun r => !risB n r.l) w := by
  intro W x hW
  have hcW : W.cell? ⟨B, 0, none⟩ = some (.int .i64 n) := (hW.cell (p := ⟨B, 0, none⟩) hlt).trans hc
  have HR := Aside0.mk (Kd.C_below (Kd.C_below x.ok hw0) hW)
  have HF := Aside0.mk (rising_f n x.l x.ok.2.1 (x.l.length + 1) (by omega))
  have HLE := Aside0.mk x.le
  obtain ⟨b, hb⟩ : ∃ b, risB n x.l = b := ⟨_, rfl⟩
  rw [hb] at HF
  show FnGives _ _ _ #[.slice x.A x.l.length x.c] (.bool (!risB n x.l)) W
  rw [hb]
  show Calls _ _ #[.slice x.A x.l.length x.c, .pointer (some ⟨B, 0, none⟩)] W _
  generalize x.A = A at *
  generalize x.c = c at *
  generalize x.l = l at *
  clear hW hc hlt hb
  go_enter Tryd.func75, Tryd.ntmps75
  go_wp2_with (go_at_call 54; (with_reducible refine (find_rising.calls (l.length + 1) A c l n b _ HR.out HLE.out HF.out).mono ?_); rintro e w' ⟨rfl, ⟨nd, rfl⟩⟩)
  go_ret
  exact ⟨rfl, nd, rfl⟩
def OfPost (n : Int) (ls : List (List Int)) (w : World) (e : Ending) (w' : World) : Prop :=
  Below w.heap.size w w' ∧ ((ofN n ls = 0 ∧ ∃ g, e = .returned (.tuple #[.pointer (some ⟨g, 0, none⟩), .int .i64 0]) ∧ IsS98 w w' g n ls) ∨ (ofN n ls ≠ 0 ∧ e = .returned (.tuple #[.pointer none, .int .i64 (ofN n ls)])))
/-- The rows that do not ascend. -/
theorem of_any (n : Int) (B : Nat) (A1 : Option Addr) (c1 : Nat) (ls : List (List Int)) (w0 w : World) (hw0 : Below w0.heap.size w0 w) (hr1 : Kd.C (Kd.slice 3 (Kd.int .i64)) w0 A1 ls.length ls) (hc : w.cell? ⟨B, 0, none⟩ = some (.int .i64 n)) (hlt : B < w.heap.size) (b : Bool) (hb : (!ls.all (risB n)) = b) :
    Calls Tryd.prog 74 #[.slice A1 ls.length c1, .func (.func 75) #[] #[.pointer (some ⟨B, 0, none⟩)]] w fun e w' => e = .returned (.bool b) ∧ Drawn0 w w' := by
  by_cases h0 : ls.length = 0
  · have hl : ls = [] := List.length_eq_zero_iff.1 h0
    subst hl
    refine (Tryd.slices_ContainsFunc_empty (α := Int) A1 c1 _ w).mono ?_
    rintro e w' ⟨rfl, rfl⟩
    exact ⟨by rw [← hb]; rfl, Drawn0.refl _⟩
  · obtain ⟨b', off, rfl, rs, h1, h2, h3⟩ := rows_in hr1 (by omega)
    rw [← h1]
    refine (Tryd.slices_ContainsFunc (fun r : RowIn w0 => rowEnc r) (fun r => !risB n r.l) 75 _ (fun _ _ => rfl) b' off rs.length c1 rs w (of1_pred n B w0 w hw0 hc hlt) (Nat.le_refl _) (by have := hr1.2.1; omega) (fun j hj => pw_cell_below hw0 (h3 j hj))).mono ?_
    rintro e w' ⟨rfl, nd, rfl⟩
    refine ⟨?_, nd, rfl⟩
    rw [← hb, ← h2, List.take_of_length_le (Nat.le_refl _), List.all_map]
    congr 2
    rw [List.any_eq_not_all_not]
    simp [Function.comp_def]
theorem of_calls (n : Int) (A1 : Option Addr) (c1 : Nat) (ls : List (List Int)) (w : World) (hr1 : Kd.C (Kd.slice 3 (Kd.int .i64)) w A1 ls.length ls) :
    Calls Tryd.prog 42 #[.int .i64 n, .slice A1 ls.length c1] w (OfPost n ls w) := by
  have HR1 := Aside0.mk hr1
  have HB := Aside0.mk (Below.refl w.heap.size w)
  have HL := Aside0.mk hr1.2.1
  clear hr1
  by_cases hn : 1 ≤ n ∧ n ≤ 49
  · by_cases hl : ls.length ≤ 60
    · have hb1 : decide (n < 1) = false := decide_eq_false (by omega)
      have hb2 : decide (49 < n) = false := decide_eq_false (by omega)
      have hb3 : decide (60 < (ls.length : Int)) = false := decide_eq_false (by omega)
      have hb4 : decide (60 < ls.length) = false := decide_eq_false (by omega)
      have HOF := Aside0.mk (show ofN n ls = if ls.all (risB n) = true then 0 else 2 by unfold ofN; rw [if_pos hn, if_pos hl])
      have HBw := Aside0.mk (show Below w.heap.size w (w.alloc (Obj.cells #[.int .i64 n] 3)) from below_alloc HB.out _)
      have hcw : (w.alloc (Obj.cells #[.int .i64 n] 3)).cell? ⟨w.heap.size, 0, none⟩ = some (.int .i64 n) := (blk_cell (heap_alloc_new w _) 0).trans rfl
      have HCW := Aside0.mk hcw
      have HLT := Aside0.mk (show w.heap.size < (w.alloc (Obj.cells #[.int .i64 n] 3)).heap.size from (Array.getElem?_eq_some_iff.1 (heap_alloc_new w _)).1)
      clear hn hl
      obtain ⟨b, hb⟩ : ∃ b, (!ls.all (risB n)) = b := ⟨_, rfl⟩
      have HBB := Aside0.mk hb
      clear hb
      cases b with
      | true =>
        go_enter Tryd.func42, Tryd.ntmps42
        go_wp2_with (go_at_call 74; (with_reducible refine (of_any n _ A1 c1 ls w _ HBw.out HR1.out HCW.out HLT.out _ HBB.out).mono ?_); rintro e w' ⟨rfl, ⟨nd, rfl⟩⟩)
        go_ret2
        have hz : ofN n ls = 2 := by rw [HOF.out, if_neg (by intro h; have := HBB.out; rw [h] at this; cases this)]
        unfold OfPost
        exact ⟨by repeat (first | (with_reducible first | exact HB.out | apply below_alloc | apply pw_below_drewN | apply below_drew1) | exact HB.out), .inr ⟨by rw [hz]; decide, by rw [hz]; rfl⟩⟩
      | false =>
        go_enter Tryd.func42, Tryd.ntmps42
        go_wp2_with (go_at_call 74; (with_reducible refine (of_any n _ A1 c1 ls w _ HBw.out HR1.out HCW.out HLT.out _ HBB.out).mono ?_); rintro e w' ⟨rfl, ⟨nd, rfl⟩⟩)
        go_ret2
        have hz : ofN n ls = 0 := by rw [HOF.out, if_pos (by have := HBB.out; cases h : ls.all (risB n) with | true => rfl | false => rw [h] at this; cases this)]
        unfold OfPost
        exact ⟨by repeat (first | (with_reducible first | exact HB.out | apply below_alloc | apply pw_below_drewN | apply below_drew1) | exact HB.out), .inl ⟨hz, _, rfl, by
          have h := IsS98.new w ((w.alloc (Obj.cells #[.int .i64 n] 3)).drewN nd) A1 c1 n ls (by repeat (first | (with_reducible first | exact HB.out | apply below_alloc | apply pw_below_drewN | apply below_drew1) | exact HB.out)) HR1.out
          have hs : ((w.alloc (Obj.cells #[.int .i64 n] 3)).drewN nd).heap.size = w.heap.size + 1 := Array.size_push ..
          rw [hs] at h
          exact h⟩⟩
    · have hb1 : decide (n < 1) = false := decide_eq_false (by omega)
      have hb2 : decide (49 < n) = false := decide_eq_false (by omega)
      have hb3 : decide (60 < (ls.length : Int)) = true := decide_eq_true (by omega)
      have hb4 : decide (60 < ls.length) = true := decide_eq_true (by omega)
      have HOF := Aside0.mk (show ofN n ls = 3 by unfold ofN; rw [if_pos hn, if_neg hl])
      clear hn hl
      go_enter Tryd.func42, Tryd.ntmps42
      go_wp2
      go_ret2
      unfold OfPost
      exact ⟨below_alloc HB.out _, .inr ⟨by rw [HOF.out]; decide, by rw [HOF.out]; rfl⟩⟩
  · have HOF := Aside0.mk (show ofN n ls = 2 by unfold ofN; rw [if_neg hn])
    by_cases h1 : n < 1
    · have hb1 : decide (n < 1) = true := decide_eq_true h1
      clear hn h1
      go_enter Tryd.func42, Tryd.ntmps42
      go_wp2
      go_ret2
      unfold OfPost
      exact ⟨below_alloc HB.out _, .inr ⟨by rw [HOF.out]; decide, by rw [HOF.out]; rfl⟩⟩
    · have hb1 : decide (n < 1) = false := decide_eq_false h1
      have hb2 : decide (49 < n) = true := decide_eq_true (by omega)
      clear hn h1
      go_enter Tryd.func42, Tryd.ntmps42
      go_wp2
      go_ret2
      unfold OfPost
      exact ⟨below_alloc HB.out _, .inr ⟨by rw [HOF.out]; decide, by rw [HOF.out]; rfl⟩⟩
theorem of_ok (n : Int) (A1 : Option Addr) (c1 : Nat) (ls : List (List Int)) (w : World) (hr1 : Kd.C (Kd.slice 3 (Kd.int .i64)) w A1 ls.length ls) (h : ofN n ls = 0) :
    Calls Tryd.prog 42 #[.int .i64 n, .slice A1 ls.length c1] w fun e w' => ∃ g, e = .returned (.tuple #[.pointer (some ⟨g, 0, none⟩), .int .i64 0]) ∧ IsS98 w w' g n ls ∧ Below w.heap.size w w' := by
  refine (of_calls n A1 c1 ls w hr1).mono ?_
  rintro e w' ⟨hb, ⟨_, g, he, hI⟩ | ⟨hne, _⟩⟩
  · exact ⟨g, he, hI, hb⟩
  · exact absurd h hne
theorem of_no (n : Int) (A1 : Option Addr) (c1 : Nat) (ls : List (List Int)) (r : Int) (w : World) (hr1 : Kd.C (Kd.slice 3 (Kd.int .i64)) w A1 ls.length ls) (h : ofN n ls = r) (h0 : r ≠ 0) :
    Calls Tryd.prog 42 #[.int .i64 n, .slice A1 ls.length c1] w fun e w' => e = .returned (.tuple #[.pointer none, .int .i64 r]) ∧ Below w.heap.size w w' := by
  subst h
  refine (of_calls n A1 c1 ls w hr1).mono ?_
  rintro e w' ⟨hb, ⟨h1, _⟩ | ⟨_, he⟩⟩
  · exact absurd h1 h0
  · exact ⟨he, hb⟩
end Go.Proofs.YtglajokjiphafaaDoor.P

set_option linter.unusedSimpArgs false
set_option linter.unusedVariables false
namespace Go.Proofs.YtglajokjiphafaaDoor.P
open Go.Lib Go.RowKit Go.Proofs.YtglajokjiphafaaDoorW.PrintWords Go.Proofs.YtglajokjiphafaaDoorW.PrintLast Go.Proofs.YtglajokjiphafaaDoorW.PrintMore Go.Proofs.YtglajokjiphafaaDoor.Kit
attribute [local go_sem] max2_int min2_int max_two min_two max_three min_three max_four min_four

section
variable {σ : Type} (step : σ → List Int → Option (σ × Bool)) (n : Nat)
/-- The visitor's states over all sets of d numbers more, from one on, until it says true. -/
def subs : Nat → σ → List Int → Nat → Option (σ × Bool)
  | 0, st, l, _ => step st l
  | d + 1, st, l, i => (List.range' i (n - i)).foldlM (fun (p : σ × Bool) (t : Nat) => if p.2 = true then some p else subs d p.1 (l ++ [(t : Int)]) (t + 1)) (st, false)
end
theorem foldlM_true {σ : Type} {f : σ → Nat → Option (σ × Bool)} (l : List Nat) (st : σ) : l.foldlM (fun (p : σ × Bool) t => if p.2 = true then some p else f p.1 t) (st, true) = some (st, true) := by
  induction l with
  | nil => rfl
  | cons x l ih => rw [List.foldlM_cons]; exact ih
/-- Only blocks of lists of lists are changed. -/
def Listy (W : World) (k : Nat) : Prop := ∃ cs t f, W.heap[k]? = some (.cells cs t f) ∧ (t = 25 ∨ t = 22)
def Kp (W W' : World) : Prop := Kept W W' (Listy W)
theorem Kp.refl (W : World) : Kp W W := Kept.refl W _
theorem Kp.of_below {W W' : World} (h : Below W.heap.size W W') : Kp W W' := Kept.of_below h _
theorem Kp.trans {W W' W2 : World} (h : Kp W W') (k : Kp W' W2) : Kp W W2 := Kept.then_ h k (fun i hi => by
  by_cases hs : i < W.heap.size
  · by_cases hl : Listy W i
    · exact .inl hl
    · obtain ⟨cs, t, f, h1, h2⟩ := hi
      rw [h.2 i hs hl] at h1
      exact .inl ⟨cs, t, f, h1, h2⟩
  · exact .inr (by omega))
theorem Kp.drewN {W W' : World} (h : Kp W W') (m : Nat) : Kp W (W'.drewN m) := h
theorem Kp.blk {W W' : World} (h : Kp W W') {g : Nat} {cs : Array Value} {t : TypeId} {f : Nat × Nat} (hb : W.heap[g]? = some (.cells cs t f)) (h1 : t ≠ 25) (h2 : t ≠ 22) : W'.heap[g]? = some (.cells cs t f) := by
  rw [h.2 g (Array.getElem?_eq_some_iff.1 hb).1 ?_, hb]
  rintro ⟨cs', t', f', hb', ht⟩
  rw [hb] at hb'
  injection hb' with hb'
  injection hb' with _ e _
  subst e
  rcases ht with ht | ht
  · exact h1 ht
  · exact h2 ht
theorem reps_of_nums0 (k : IntKind) (xs : List Int) : Reps (fun (x : Int) cs => cs = [Value.int k x]) 1 xs (nums k xs) := by
  refine ⟨by rw [nums_length, Nat.mul_one], fun j p hj => ?_⟩
  have hlt : j < xs.length := by
    rcases Nat.lt_or_ge j xs.length with h | h
    · exact h
    · rw [List.getElem?_eq_none h] at hj; cases hj
  rw [List.getElem?_eq_getElem hlt] at hj
  injection hj with hj
  rw [Nat.mul_one]
  apply List.ext_getElem?
  intro i
  cases i with
  | zero => simp [nums, List.getElem?_eq_getElem hlt, hj]
  | succ i =>
    simp
    omega
theorem R_int_mk0 {k : IntKind} {e base : Nat} {ok : Nat → Prop} {w : World} {v : Value} {xs : List Int} (h0 : ∀ j, v.ownBlock = some j → ok j) (ho : w.ownsRow base e 1 v xs.length (nums k xs)) : (Kd.int k).R e w base ok v xs :=
  ⟨h0, nums k xs, ho, reps_of_nums0 k xs⟩
/-- A row of numbers of its own. -/
def RowAt (W : World) (A : Option Addr) (c : Nat) (l : List Int) : Prop := W.ownsRow 0 3 1 (.slice A l.length c) l.length (nums .i64 l)
/-- The same, its block not below B. -/
def RowB (B : Nat) (W : World) (A : Option Addr) (c : Nat) (l : List Int) : Prop := W.ownsRow B 3 1 (.slice A l.length c) l.length (nums .i64 l)
theorem RowB.mono {B B' : Nat} {W : World} {A : Option Addr} {c : Nat} {l : List Int} (h : RowB B W A c l) (hB : B' ≤ B) : RowB B' W A c l := by
  refine ⟨h.1, ?_⟩
  rcases h.2 with h | ⟨g, cap, cur, h1, h2, h3⟩
  · exact .inl h
  · exact .inr ⟨g, cap, cur, h1, Nat.le_trans hB h2, h3⟩
theorem RowB.at {B : Nat} {W : World} {A : Option Addr} {c : Nat} {l : List Int} (h : RowB B W A c l) : RowAt W A c l := h.mono (Nat.zero_le _)
theorem RowB.kp {B : Nat} {W W' : World} {A : Option Addr} {c : Nat} {l : List Int} (h : RowB B W A c l) (k : Kp W W') : RowB B W' A c l := by
  refine ⟨h.1, ?_⟩
  rcases h.2 with h | ⟨g, cap, cur, h1, h2, h3, h4⟩
  · exact .inl h
  · exact .inr ⟨g, cap, cur, h1, h2, k.blk h3 (by decide) (by decide), h4⟩
theorem RowAt.kp {W W' : World} {A : Option Addr} {c : Nat} {l : List Int} (h : RowAt W A c l) (k : Kp W W') : RowAt W' A c l := by
  refine ⟨h.1, ?_⟩
  rcases h.2 with h | ⟨g, cap, cur, h1, h2, h3, h4⟩
  · exact .inl h
  · exact .inr ⟨g, cap, cur, h1, h2, k.blk h3 (by decide) (by decide), h4⟩
theorem RowAt.reads {W : World} {A : Option Addr} {c : Nat} {l : List Int} (h : RowAt W A c l) : Kd.C (Kd.int .i64) W A l.length l ∧ l.length ≤ c := by
  obtain ⟨A', c', h1, h2, h3⟩ := Kd.R_reads (R_int_mk0 (ok := fun _ => True) (fun _ _ => trivial) h)
  injection h1 with e1 e2 e3
  subst e1 e3
  exact ⟨h3, h2⟩
theorem RowAt.cases {W : World} {A : Option Addr} {c : Nat} {l : List Int} (h : RowAt W A c l) : (A = none ∧ l = [] ∧ c = 0) ∨ ∃ ad, A = some ad := by
  rcases h.2 with ⟨h1, h2⟩ | ⟨g, cap, cur, h1, h2⟩
  · injection h1 with e1 e2 e3
    exact .inl ⟨e1, List.length_eq_zero_iff.1 h2, e3⟩
  · injection h1 with e1 e2 e3
    exact .inr ⟨_, e1⟩
theorem RowAt.cells {W : World} {A : Option Addr} {c : Nat} {l : List Int} (h : RowAt W A c l) (b : Addr) (hb : A = some b) (j : Nat) (u : Value) (hu : (nums .i64 l)[j]? = some u) : W.cell? (b.add j) = some u := by
  subst hb
  have hj : j < l.length := by
    have := (List.getElem?_eq_some_iff.1 hu).1
    rw [nums_length] at this
    exact this
  obtain ⟨ad', e', h1⟩ := Kd.at_int h.reads.1 (j : Int) (by omega) (by omega)
  injection e' with e'
  subst e'
  rw [rd_get l j hj, Int.toNat_natCast] at h1
  rw [h1, ← hu]
  simp [nums, List.getElem?_eq_getElem hj]
theorem row_one {W : World} {base e B : Nat} {v : Value} {l : List Int} {s : Int} (hB : B ≤ base) (h : W.ownsRow base 3 1 v (l.length + 1) (nums .i64 l ++ [.int .i64 s])) : ∃ A c, v = .slice A (l ++ [s]).length c ∧ RowB B W A c (l ++ [s]) := by
  have hl : (l ++ [s]).length = l.length + 1 := by simp
  have h2 : W.ownsRow base 3 1 v (l ++ [s]).length (nums .i64 (l ++ [s])) := by rw [hl, nums_append]; exact h
  rcases h2.2 with ⟨e1, e2⟩ | ⟨g, cap, cur, h1, h3⟩
  · omega
  · exact ⟨_, cap, h1, h2.1, .inr ⟨g, cap, cur, rfl, Nat.le_trans hB h3.1, h3.2⟩⟩
theorem news_one {W : World} {H : Nat} {v : Value} (hc : W.cell? ⟨H, 0, none⟩ = some v) (j : Nat) (u : Value) (hu : [v][j]? = some u) : W.cell? ((⟨H, 0, none⟩ : Addr).add j) = some u := by
  cases j with
  | zero => simp at hu; subst hu; exact hc
  | succ j => simp at hu
theorem cell_new (W : World) (v : Value) (t : TypeId) : (W.alloc (Obj.cells #[v] t)).cell? ⟨W.heap.size, 0, none⟩ = some v := by
  unfold World.cell?
  rw [heap_alloc_new]
  rfl
theorem cell_new_drew (W : World) (v : Value) (t : TypeId) : ((W.alloc (Obj.cells #[v] t)).drew).cell? ⟨W.heap.size, 0, none⟩ = some v := cell_new W v t
theorem gate_op {P : Program} {ops : Array Oper} {o : Oper} {a : Act} {w : World} {K : Act → World → Prop} {Q : Exit → Act → World → Prop} {E : Prop} (x : Op) (_h : o.op = x)
    (k : if Region.wanted o (yielded ops a.tmps) = true then Oper.wp P o a w K Q else E) : if Region.wanted o (yielded ops a.tmps) = true then Oper.wp P o a w K Q else E := k
section
variable {σ : Type} {step : σ → List Int → Option (σ × Bool)} {n many : Nat} {J : σ → World → Prop} {B g : Nat} {lb : Array Value}
/-- What is asked of the visitor. -/
structure Visits (step : σ → List Int → Option (σ × Bool)) (n many : Nat) (J : σ → World → Prop) (B g : Nat) (lb : Array Value) : Prop where
  eg : ∀ args w, (callFunc g args).run Tryd.prog w = .ok (.enter g args) w
  le : ∀ st W, J st W → B ≤ W.heap.size
  keep : ∀ st W W', J st W → Below W.heap.size W W' → J st W'
  visit : ∀ st st' b (l : List Int) A c W0 W, step st l = some (st', b) → l.length = many → (∀ x ∈ l, 0 ≤ x ∧ x < n) → J st W0 → Below W0.heap.size W0 W → RowB W0.heap.size W A c l →
    Calls Tryd.prog g (#[.slice A l.length c] ++ lb) W fun e w' => e = .returned (.bool b) ∧ J st' w' ∧ Kp W w' ∧ Below B W w'
structure OnAt (n many g : Nat) (lb : Array Value) (Bm Bv Bn Bo : Nat) (W : World) : Prop where
  m : ∃ t f, W.heap[Bm]? = some (.cells #[.int .i64 (many : Int)] t f) ∧ t ≠ 25 ∧ t ≠ 22
  v : ∃ t f, W.heap[Bv]? = some (.cells #[.func (.func g) #[] lb] t f) ∧ t ≠ 25 ∧ t ≠ 22
  n : ∃ t f, W.heap[Bn]? = some (.cells #[.int .i64 (n : Int)] t f) ∧ t ≠ 25 ∧ t ≠ 22
  o : ∃ t f, W.heap[Bo]? = some (.cells #[.func (.func 77) #[] #[.pointer (some ⟨Bm, 0, none⟩), .pointer (some ⟨Bv, 0, none⟩), .pointer (some ⟨Bn, 0, none⟩), .pointer (some ⟨Bo, 0, none⟩)]] t f) ∧ t ≠ 25 ∧ t ≠ 22
theorem OnAt.kp {Bm Bv Bn Bo : Nat} {W W' : World} (h : OnAt n many g lb Bm Bv Bn Bo W) (k : Kp W W') : OnAt n many g lb Bm Bv Bn Bo W' := by
  obtain ⟨⟨t1, f1, a1, b1, c1⟩, ⟨t2, f2, a2, b2, c2⟩, ⟨t3, f3, a3, b3, c3⟩, ⟨t4, f4, a4, b4, c4⟩⟩ := h
  exact ⟨⟨t1, f1, k.blk a1 b1 c1, b1, c1⟩, ⟨t2, f2, k.blk a2 b2 c2, b2, c2⟩, ⟨t3, f3, k.blk a3 b3 c3, b3, c3⟩, ⟨t4, f4, k.blk a4 b4 c4, b4, c4⟩⟩
theorem OnAt.cm {Bm Bv Bn Bo : Nat} {W : World} (h : OnAt n many g lb Bm Bv Bn Bo W) : W.cell? ⟨Bm, 0, none⟩ = some (.int .i64 (many : Int)) := by obtain ⟨t, f, a, _⟩ := h.m; unfold World.cell?; rw [a]; rfl
theorem OnAt.cv {Bm Bv Bn Bo : Nat} {W : World} (h : OnAt n many g lb Bm Bv Bn Bo W) : W.cell? ⟨Bv, 0, none⟩ = some (.func (.func g) #[] lb) := by obtain ⟨t, f, a, _⟩ := h.v; unfold World.cell?; rw [a]; rfl
theorem OnAt.cn {Bm Bv Bn Bo : Nat} {W : World} (h : OnAt n many g lb Bm Bv Bn Bo W) : W.cell? ⟨Bn, 0, none⟩ = some (.int .i64 (n : Int)) := by obtain ⟨t, f, a, _⟩ := h.n; unfold World.cell?; rw [a]; rfl
theorem OnAt.co {Bm Bv Bn Bo : Nat} {W : World} (h : OnAt n many g lb Bm Bv Bn Bo W) : W.cell? ⟨Bo, 0, none⟩ = some (.func (.func 77) #[] #[.pointer (some ⟨Bm, 0, none⟩), .pointer (some ⟨Bv, 0, none⟩), .pointer (some ⟨Bn, 0, none⟩), .pointer (some ⟨Bo, 0, none⟩)]) := by obtain ⟨t, f, a, _⟩ := h.o; unfold World.cell?; rw [a]; rfl
set_option maxHeartbeats 4000000
set_option maxRecDepth 100000
theorem on_calls (V : Visits step n many J B g lb) (hn : n ≤ 100) (hm : many ≤ 100) (Bm Bv Bn Bo : Nat) : ∀ (d : Nat) (st st' : σ) (b : Bool) (l : List Int) (i0 : Nat) (A : Option Addr) (c : Nat) (W0 W : World),
    subs step n d st l i0 = some (st', b) → l.length + d = many → (∀ x ∈ l, 0 ≤ x ∧ x < n) → i0 ≤ 101 → J st W0 → Below W0.heap.size W0 W → OnAt n many g lb Bm Bv Bn Bo W → RowB W0.heap.size W A c l →
    Calls Tryd.prog 77 #[.slice A l.length c, .int .i64 (i0 : Int), .pointer (some ⟨Bm, 0, none⟩), .pointer (some ⟨Bv, 0, none⟩), .pointer (some ⟨Bn, 0, none⟩), .pointer (some ⟨Bo, 0, none⟩)] W fun e w' => e = .returned (.bool b) ∧ J st' w' ∧ Kp W w' ∧ Below B W w' := by
  intro d
  induction d with
  | zero =>
    intro st st' b l i0 A c W0 W h hd hx hi hJ hB0 hO hR
    have hcm := hO.cm
    have hcv := hO.cv
    have e0 : ((l.length : Int) == (many : Int)) = true := beq_iff_eq.2 (by omega)
    have eg := V.eg
    have HV := Aside0.mk (V.visit st st' b l A c W0 W h (by omega) hx hJ hB0 hR)
    clear h hd hx hi hJ hB0 hO hR
    go_enter Tryd.func77, Tryd.ntmps77
    go_wp2_with (go_at_fn g; (with_reducible refine (HV.out).mono ?_); rintro e w1 ⟨rfl, hJ1, hk1, hb1⟩; have HJ1 := Aside0.mk hJ1; have HK1 := Aside0.mk hk1; have HB1 := Aside0.mk hb1; clear hJ1 hk1 hb1)
    go_ret
    exact ⟨rfl, HJ1.out, HK1.out, HB1.out⟩
  | succ d ih =>
    intro st st' b l i0 A c W0 W h hd hx hi hJ0 hB0 hO hR0
    have hJ := V.keep _ _ _ hJ0 hB0
    have hR := hR0.at
    clear hJ0 hB0 hR0
    rcases hR.cases with ⟨eA, el, ec⟩ | ⟨ad, eA⟩
    · subst eA el ec
      have hcm := hO.cm
      have e0 : ((0 : Int) == (many : Int)) = false := beq_eq_false_iff_ne.2 (by have : ([] : List Int).length = 0 := rfl; omega)
      have HO := Aside0.mk hO
      have HR := Aside0.mk hR
      have HJ := Aside0.mk hJ
      have HX := Aside0.mk hx
      have HD := Aside0.mk hd
      have HI0 := Aside0.mk hi
      have HF := Aside0.mk (show (List.range' i0 (n - i0)).foldlM (fun (p : σ × Bool) (t : Nat) => if p.2 = true then some p else subs step n d p.1 (([] : List Int) ++ [(t : Int)]) (t + 1)) (st, false) = some (st', b) from h)
      clear h hd hx hi hJ hO hR
      change Calls _ _ #[.slice none 0 0, _, _, _, _, _] W _
      go_enter Tryd.func77, Tryd.ntmps77
      go_wp2
      go_loopw [9] (fun v9 w' => ∃ i : Nat, v9 = .int .i64 (i : Int) ∧ Aside0 (i ≤ 101) ∧ Aside0 (∃ sti, (List.range' i (n - i)).foldlM (fun (p : σ × Bool) (t : Nat) => if p.2 = true then some p else subs step n d p.1 (([] : List Int) ++ [(t : Int)]) (t + 1)) (sti, false) = some (st', b) ∧ J sti w') ∧ Aside0 (Kp W w') ∧ Aside0 (Below B W w')) (fun v _ => n - (intOf v).toNat)
      case atStart => exact ⟨i0, rfl, ⟨HI0.out⟩, ⟨st, HF.out, HJ.out⟩, ⟨Kp.refl _⟩, ⟨Below.refl _ _⟩⟩
      case round =>
        clear HF HI0 HJ
        obtain ⟨i, rfl, HI, HS, HK, HB⟩ := hrel
        have hOw := HO.out.kp HK.out
        have hcn := hOw.cn
        by_cases ct : (i : Int) < (n : Int)
        · have c1b : decide ((i : Int) < (n : Int)) = true := decide_eq_true ct
          have c1c : decide (i < n) = true := decide_eq_true (by omega)
          have hi : i < n := by omega
          have Hi := Aside0.mk hi
          obtain ⟨sti, hf, hJi⟩ := HS.out
          rw [show n - i = (n - (i + 1)) + 1 by omega, List.range'_succ, List.foldlM_cons] at hf
          obtain ⟨⟨st2, b2⟩, hf1, hf2⟩ := Option.bind_eq_some_iff.1 hf
          have hf1' : subs step n d sti (([] : List Int) ++ [(i : Int)]) (i + 1) = some (st2, b2) := hf1
          have HF2 := Aside0.mk hf2
          have HJi := Aside0.mk hJi
          have HOw := Aside0.mk hOw
          have hbo := hOw.co
          have HBO := Aside0.mk hbo
          have HRw := Aside0.mk (HR.out.kp HK.out)
          have hls1 : (([] : List Int) ++ [(i : Int)]).length = ([] : List Int).length + 1 := by simp
          have hw : wrap64 ((i : Int) + 1) = ((i + 1 : Nat) : Int) := by rw [w64 (by omega) (by have := HI.out; omega)]; omega
          have hih : ∀ A9 c9 w9, Below wr.heap.size wr w9 → RowB wr.heap.size w9 A9 c9 (([] : List Int) ++ [(i : Int)]) → _ := fun A9 c9 w9 h1 h2 => ih sti st2 b2 (([] : List Int) ++ [(i : Int)]) (i + 1) A9 c9 wr w9 hf1' (by have := HD.out; rw [hls1]; omega) (fun x hx => by rcases List.mem_append.1 hx with hx | hx; exact HX.out x hx; have := List.mem_singleton.1 hx; subst this; have := Hi.out; omega) (by omega) HJi.out h1 (HOw.out.kp (Kp.of_below h1)) h2
          have hwi : IntKind.i64.wrap ((i : Int) + 1) = ((i + 1 : Nat) : Int) := (i64_w _).trans hw
          rw [hls1, ← hwi] at hih
          have HW := Aside0.mk hw
          have hll : ([] : List Int).length ≤ 100 := by have := HD.out; omega
          have HLL := Aside0.mk hll
          have hi3 := info3
          obtain ⟨i0', hi0, hi1⟩ := Option.map_eq_some_iff.1 hi3
          injection hi1 with hz0 hi2
          injection hi2 with hz1 hz2
          have hI0 := Aside0.mk (show Tryd.prog.info? 3 = some i0' from hi0)
          have hZ0 := Aside0.mk hz0
          have hZ1 := Aside0.mk hz1
          have hZ2 := Aside0.mk hz2
          have eo : ∀ args w, (callFunc 77 args).run Tryd.prog w = .ok (.enter 77 args) w := enters_of Tryd.func77 (by kernel_rfl) rfl
          clear hf hf1 hf2 hf1' HS hi ct hJi hOw hw hwi hll hi3 hi0 hz0 hz1 hz2
          change ∀ A9 c9 w9, Below wr.heap.size wr w9 → RowB wr.heap.size w9 A9 c9 ([] ++ [(i : Int)]) → Calls _ _ #[.slice A9 1 c9, _, _, _, _, _] w9 _ at hih
          cases b2 with
          | false =>
            go_wp2
            go_region_held3 (fun w' => w'.cell? ⟨Bo, 0, none⟩ = some (.func (.func 77) #[] #[.pointer (some ⟨Bm, 0, none⟩), .pointer (some ⟨Bv, 0, none⟩), .pointer (some ⟨Bn, 0, none⟩), .pointer (some ⟨Bo, 0, none⟩)])) (go_keep) (first | ((refine gate_op (.call { callee := .builtin .append, args := #[.tmp 29, .tmp 31], argTypes := #[25, 25] }) rfl ?_); (refine step_append_grows (by rfl) (.tmp 29) (.tmp 31) 25 (by rfl) 3 i0' (.int .i64 0) 1 8 Tryd.underlying25 hI0.out hZ0.out hZ1.out hZ2.out (by rfl) (by decide) none 0 0 [] (by rfl) (fun _ => ⟨rfl, rfl⟩) (by rfl) (fun b h => by cases h) ⟨_, 0, none⟩ 1 1 [.int .i64 (i : Int)] (by rfl) (by rfl) (news_one (by first | exact cell_new _ _ _ | exact cell_new_drew _ _ _)) (by intro u hu; have hu2 := List.mem_singleton.1 hu; subst hu2; rfl) (by omega) (by unfold maxLen; omega) (by omega) ?_); intro v9 w9 hown9 hgrow9; obtain ⟨A9, c9, rfl, hrow9⟩ := row_one (l := []) (B := wr.heap.size) (e := 0) (by simp; try omega) hown9; have HR9 := Aside0.mk hrow9; have HB9 := Aside0.mk (show Below wr.heap.size wr w9 from pw_below_grown (by repeat (first | exact Below.refl _ _ | apply below_alloc | apply pw_below_drewN | apply below_drew)) none (by simp; try omega) hgrow9 (fun k hk => by cases hk)); have hS9 := pw_cell_below HB9.out HBO.out; clear hown9 hgrow9 hrow9; (try rw [hls1])) | (go_at_fn 77; (refine (hih A9 c9 w9 HB9.out HR9.out).mono ?_); rintro e w10 ⟨rfl, hJ10, hk10, hb10⟩; have HJ10 := Aside0.mk hJ10; have HK10 := Aside0.mk hk10; have HB10 := Aside0.mk hb10; have hcn10 := (HOw.out.kp ((Kp.of_below HB9.out).trans hk10)).cn; have hS10 := (HOw.out.kp ((Kp.of_below HB9.out).trans hk10)).co; clear hJ10 hk10 hb10; dsimp only))
            all_goals
              go_wp2
              go_roundw
              case rel =>
                have hw := HW.out
                have hle := V.le _ _ HJi.out
                exact ⟨i + 1, by rw [hw], ⟨by have := Hi.out; omega⟩, ⟨⟨st2, HF2.out, HJ10.out⟩⟩, ⟨(HK.out.trans (Kp.of_below HB9.out)).trans HK10.out⟩, ⟨(below_then HB.out hle HB9.out).trans HB10.out⟩⟩
              case measure => have hw := HW.out; rw [hw]; have := Hi.out; simp [intOf]; omega
          | true =>
            go_wp2
            go_region_held3 (fun w' => w'.cell? ⟨Bo, 0, none⟩ = some (.func (.func 77) #[] #[.pointer (some ⟨Bm, 0, none⟩), .pointer (some ⟨Bv, 0, none⟩), .pointer (some ⟨Bn, 0, none⟩), .pointer (some ⟨Bo, 0, none⟩)])) (go_keep) (first | ((refine gate_op (.call { callee := .builtin .append, args := #[.tmp 29, .tmp 31], argTypes := #[25, 25] }) rfl ?_); (refine step_append_grows (by rfl) (.tmp 29) (.tmp 31) 25 (by rfl) 3 i0' (.int .i64 0) 1 8 Tryd.underlying25 hI0.out hZ0.out hZ1.out hZ2.out (by rfl) (by decide) none 0 0 [] (by rfl) (fun _ => ⟨rfl, rfl⟩) (by rfl) (fun b h => by cases h) ⟨_, 0, none⟩ 1 1 [.int .i64 (i : Int)] (by rfl) (by rfl) (news_one (by first | exact cell_new _ _ _ | exact cell_new_drew _ _ _)) (by intro u hu; have hu2 := List.mem_singleton.1 hu; subst hu2; rfl) (by omega) (by unfold maxLen; omega) (by omega) ?_); intro v9 w9 hown9 hgrow9; obtain ⟨A9, c9, rfl, hrow9⟩ := row_one (l := []) (B := wr.heap.size) (e := 0) (by simp; try omega) hown9; have HR9 := Aside0.mk hrow9; have HB9 := Aside0.mk (show Below wr.heap.size wr w9 from pw_below_grown (by repeat (first | exact Below.refl _ _ | apply below_alloc | apply pw_below_drewN | apply below_drew)) none (by simp; try omega) hgrow9 (fun k hk => by cases hk)); have hS9 := pw_cell_below HB9.out HBO.out; clear hown9 hgrow9 hrow9; (try rw [hls1])) | (go_at_fn 77; (refine (hih A9 c9 w9 HB9.out HR9.out).mono ?_); rintro e w10 ⟨rfl, hJ10, hk10, hb10⟩; have HJ10 := Aside0.mk hJ10; have HK10 := Aside0.mk hk10; have HB10 := Aside0.mk hb10; have hcn10 := (HOw.out.kp ((Kp.of_below HB9.out).trans hk10)).cn; have hS10 := (HOw.out.kp ((Kp.of_below HB9.out).trans hk10)).co; clear hJ10 hk10 hb10; dsimp only))
            all_goals
              go_wp2
              go_ret
              have hle := V.le _ _ HJi.out
              have hf2 := (foldlM_true (f := fun s (t : Nat) => subs step n d s (([] : List Int) ++ [(t : Int)]) (t + 1)) _ _).symm.trans HF2.out
              injection hf2 with hf2
              injection hf2 with h1 h2
              subst h1 h2
              exact ⟨rfl, HJ10.out, (HK.out.trans (Kp.of_below HB9.out)).trans HK10.out, (below_then HB.out hle HB9.out).trans HB10.out⟩
        · have c1b : decide ((i : Int) < (n : Int)) = false := decide_eq_false ct
          have c1c : decide (i < n) = false := decide_eq_false (by omega)
          have hJf : J st' wr ∧ b = false := by
            obtain ⟨sti, hf, hJi⟩ := HS.out
            rw [show n - i = 0 by omega] at hf
            injection hf with hf
            injection hf with h1 h2
            rw [← h1, ← h2]; exact ⟨hJi, rfl⟩
          obtain ⟨hJf, rfl⟩ := hJf
          have HJf := Aside0.mk hJf
          clear ct HS hJf
          go_wp2
          go_ret
          exact ⟨rfl, HJf.out, HK.out, HB.out⟩
    · subst eA
      have hcm := hO.cm
      have e0 : ((l.length : Int) == (many : Int)) = false := beq_eq_false_iff_ne.2 (by omega)
      have HO := Aside0.mk hO
      have HR := Aside0.mk hR
      have HJ := Aside0.mk hJ
      have HX := Aside0.mk hx
      have HD := Aside0.mk hd
      have HI0 := Aside0.mk hi
      have HF := Aside0.mk (show (List.range' i0 (n - i0)).foldlM (fun (p : σ × Bool) (t : Nat) => if p.2 = true then some p else subs step n d p.1 (l ++ [(t : Int)]) (t + 1)) (st, false) = some (st', b) from h)
      clear h hd hx hi hJ hO hR
      go_enter Tryd.func77, Tryd.ntmps77
      go_wp2
      go_loopw [9] (fun v9 w' => ∃ i : Nat, v9 = .int .i64 (i : Int) ∧ Aside0 (i ≤ 101) ∧ Aside0 (∃ sti, (List.range' i (n - i)).foldlM (fun (p : σ × Bool) (t : Nat) => if p.2 = true then some p else subs step n d p.1 (l ++ [(t : Int)]) (t + 1)) (sti, false) = some (st', b) ∧ J sti w') ∧ Aside0 (Kp W w') ∧ Aside0 (Below B W w')) (fun v _ => n - (intOf v).toNat)
      case atStart => exact ⟨i0, rfl, ⟨HI0.out⟩, ⟨st, HF.out, HJ.out⟩, ⟨Kp.refl _⟩, ⟨Below.refl _ _⟩⟩
      case round =>
        clear HF HI0 HJ
        obtain ⟨i, rfl, HI, HS, HK, HB⟩ := hrel
        have hOw := HO.out.kp HK.out
        have hcn := hOw.cn
        by_cases ct : (i : Int) < (n : Int)
        · have c1b : decide ((i : Int) < (n : Int)) = true := decide_eq_true ct
          have c1c : decide (i < n) = true := decide_eq_true (by omega)
          have hi : i < n := by omega
          have Hi := Aside0.mk hi
          obtain ⟨sti, hf, hJi⟩ := HS.out
          rw [show n - i = (n - (i + 1)) + 1 by omega, List.range'_succ, List.foldlM_cons] at hf
          obtain ⟨⟨st2, b2⟩, hf1, hf2⟩ := Option.bind_eq_some_iff.1 hf
          have hf1' : subs step n d sti (l ++ [(i : Int)]) (i + 1) = some (st2, b2) := hf1
          have HF2 := Aside0.mk hf2
          have HJi := Aside0.mk hJi
          have HOw := Aside0.mk hOw
          have hbo := hOw.co
          have HBO := Aside0.mk hbo
          have HRw := Aside0.mk (HR.out.kp HK.out)
          have hls1 : (l ++ [(i : Int)]).length = l.length + 1 := by simp
          have hw : wrap64 ((i : Int) + 1) = ((i + 1 : Nat) : Int) := by rw [w64 (by omega) (by have := HI.out; omega)]; omega
          have hih : ∀ A9 c9 w9, Below wr.heap.size wr w9 → RowB wr.heap.size w9 A9 c9 (l ++ [(i : Int)]) → _ := fun A9 c9 w9 h1 h2 => ih sti st2 b2 (l ++ [(i : Int)]) (i + 1) A9 c9 wr w9 hf1' (by have := HD.out; rw [hls1]; omega) (fun x hx => by rcases List.mem_append.1 hx with hx | hx; exact HX.out x hx; have := List.mem_singleton.1 hx; subst this; have := Hi.out; omega) (by omega) HJi.out h1 (HOw.out.kp (Kp.of_below h1)) h2
          have hwi : IntKind.i64.wrap ((i : Int) + 1) = ((i + 1 : Nat) : Int) := (i64_w _).trans hw
          rw [hls1, ← hwi] at hih
          have HW := Aside0.mk hw
          have hll : l.length ≤ 100 := by have := HD.out; omega
          have HLL := Aside0.mk hll
          have hi3 := info3
          obtain ⟨i0', hi0, hi1⟩ := Option.map_eq_some_iff.1 hi3
          injection hi1 with hz0 hi2
          injection hi2 with hz1 hz2
          have hI0 := Aside0.mk (show Tryd.prog.info? 3 = some i0' from hi0)
          have hZ0 := Aside0.mk hz0
          have hZ1 := Aside0.mk hz1
          have hZ2 := Aside0.mk hz2
          have eo : ∀ args w, (callFunc 77 args).run Tryd.prog w = .ok (.enter 77 args) w := enters_of Tryd.func77 (by kernel_rfl) rfl
          clear hf hf1 hf2 hf1' HS hi ct hJi hOw hw hwi hll hi3 hi0 hz0 hz1 hz2
          have hcN : l.length ≤ c := HRw.out.reads.2
          have hcI : (l.length : Int) ≤ (c : Int) := by omega
          have hcI0 : (0 : Int) ≤ (l.length : Int) := by omega
          cases b2 with
          | false =>
            go_wp2
            go_region_held3 (fun w' => w'.cell? ⟨Bo, 0, none⟩ = some (.func (.func 77) #[] #[.pointer (some ⟨Bm, 0, none⟩), .pointer (some ⟨Bv, 0, none⟩), .pointer (some ⟨Bn, 0, none⟩), .pointer (some ⟨Bo, 0, none⟩)])) (go_keep) (first | ((refine gate_op (.call { callee := .builtin .append, args := #[.tmp 29, .tmp 31], argTypes := #[25, 25] }) rfl ?_); (refine step_append_grows (by rfl) (.tmp 29) (.tmp 31) 25 (by rfl) 3 i0' (.int .i64 0) 1 8 Tryd.underlying25 hI0.out hZ0.out hZ1.out hZ2.out (by rfl) (by decide) (some ad) l.length l.length (nums .i64 l) (by rfl) (fun h => by cases h) (by rw [nums_length, Nat.mul_one]) ((HRw.out.kp (Kp.of_below (by repeat (first | exact Below.refl _ _ | apply below_alloc | apply pw_below_drewN | apply below_drew)))).cells) ⟨_, 0, none⟩ 1 1 [.int .i64 (i : Int)] (by rfl) (by rfl) (news_one (by first | exact cell_new _ _ _ | exact cell_new_drew _ _ _)) (by intro u hu; have hu2 := List.mem_singleton.1 hu; subst hu2; rfl) (by omega) (by unfold maxLen; have := HLL.out; omega) (by have := HLL.out; omega) ?_); intro v9 w9 hown9 hgrow9; obtain ⟨A9, c9, rfl, hrow9⟩ := row_one (l := l) (B := wr.heap.size) (e := 0) (by simp; try omega) hown9; have HR9 := Aside0.mk hrow9; have HB9 := Aside0.mk (show Below wr.heap.size wr w9 from pw_below_grown (by repeat (first | exact Below.refl _ _ | apply below_alloc | apply pw_below_drewN | apply below_drew)) none (by simp; try omega) hgrow9 (fun k hk => by cases hk)); have hS9 := pw_cell_below HB9.out HBO.out; clear hown9 hgrow9 hrow9; (try rw [hls1])) | (go_at_fn 77; (refine (hih A9 c9 w9 HB9.out HR9.out).mono ?_); rintro e w10 ⟨rfl, hJ10, hk10, hb10⟩; have HJ10 := Aside0.mk hJ10; have HK10 := Aside0.mk hk10; have HB10 := Aside0.mk hb10; have hcn10 := (HOw.out.kp ((Kp.of_below HB9.out).trans hk10)).cn; have hS10 := (HOw.out.kp ((Kp.of_below HB9.out).trans hk10)).co; clear hJ10 hk10 hb10; dsimp only))
            all_goals
              go_wp2
              go_roundw
              case rel =>
                have hw := HW.out
                have hle := V.le _ _ HJi.out
                exact ⟨i + 1, by rw [hw], ⟨by have := Hi.out; omega⟩, ⟨⟨st2, HF2.out, HJ10.out⟩⟩, ⟨(HK.out.trans (Kp.of_below HB9.out)).trans HK10.out⟩, ⟨(below_then HB.out hle HB9.out).trans HB10.out⟩⟩
              case measure => have hw := HW.out; rw [hw]; have := Hi.out; simp [intOf]; omega
          | true =>
            go_wp2
            go_region_held3 (fun w' => w'.cell? ⟨Bo, 0, none⟩ = some (.func (.func 77) #[] #[.pointer (some ⟨Bm, 0, none⟩), .pointer (some ⟨Bv, 0, none⟩), .pointer (some ⟨Bn, 0, none⟩), .pointer (some ⟨Bo, 0, none⟩)])) (go_keep) (first | ((refine gate_op (.call { callee := .builtin .append, args := #[.tmp 29, .tmp 31], argTypes := #[25, 25] }) rfl ?_); (refine step_append_grows (by rfl) (.tmp 29) (.tmp 31) 25 (by rfl) 3 i0' (.int .i64 0) 1 8 Tryd.underlying25 hI0.out hZ0.out hZ1.out hZ2.out (by rfl) (by decide) (some ad) l.length l.length (nums .i64 l) (by rfl) (fun h => by cases h) (by rw [nums_length, Nat.mul_one]) ((HRw.out.kp (Kp.of_below (by repeat (first | exact Below.refl _ _ | apply below_alloc | apply pw_below_drewN | apply below_drew)))).cells) ⟨_, 0, none⟩ 1 1 [.int .i64 (i : Int)] (by rfl) (by rfl) (news_one (by first | exact cell_new _ _ _ | exact cell_new_drew _ _ _)) (by intro u hu; have hu2 := List.mem_singleton.1 hu; subst hu2; rfl) (by omega) (by unfold maxLen; have := HLL.out; omega) (by have := HLL.out; omega) ?_); intro v9 w9 hown9 hgrow9; obtain ⟨A9, c9, rfl, hrow9⟩ := row_one (l := l) (B := wr.heap.size) (e := 0) (by simp; try omega) hown9; have HR9 := Aside0.mk hrow9; have HB9 := Aside0.mk (show Below wr.heap.size wr w9 from pw_below_grown (by repeat (first | exact Below.refl _ _ | apply below_alloc | apply pw_below_drewN | apply below_drew)) none (by simp; try omega) hgrow9 (fun k hk => by cases hk)); have hS9 := pw_cell_below HB9.out HBO.out; clear hown9 hgrow9 hrow9; (try rw [hls1])) | (go_at_fn 77; (refine (hih A9 c9 w9 HB9.out HR9.out).mono ?_); rintro e w10 ⟨rfl, hJ10, hk10, hb10⟩; have HJ10 := Aside0.mk hJ10; have HK10 := Aside0.mk hk10; have HB10 := Aside0.mk hb10; have hcn10 := (HOw.out.kp ((Kp.of_below HB9.out).trans hk10)).cn; have hS10 := (HOw.out.kp ((Kp.of_below HB9.out).trans hk10)).co; clear hJ10 hk10 hb10; dsimp only))
            all_goals
              go_wp2
              go_ret
              have hle := V.le _ _ HJi.out
              have hf2 := (foldlM_true (f := fun s (t : Nat) => subs step n d s (l ++ [(t : Int)]) (t + 1)) _ _).symm.trans HF2.out
              injection hf2 with hf2
              injection hf2 with h1 h2
              subst h1 h2
              exact ⟨rfl, HJ10.out, (HK.out.trans (Kp.of_below HB9.out)).trans HK10.out, (below_then HB.out hle HB9.out).trans HB10.out⟩
        · have c1b : decide ((i : Int) < (n : Int)) = false := decide_eq_false ct
          have c1c : decide (i < n) = false := decide_eq_false (by omega)
          have hJf : J st' wr ∧ b = false := by
            obtain ⟨sti, hf, hJi⟩ := HS.out
            rw [show n - i = 0 by omega] at hf
            injection hf with hf
            injection hf with h1 h2
            rw [← h1, ← h2]; exact ⟨hJi, rfl⟩
          obtain ⟨hJf, rfl⟩ := hJf
          have HJf := Aside0.mk hJf
          clear ct HS hJf
          go_wp2
          go_ret
          exact ⟨rfl, HJf.out, HK.out, HB.out⟩
end
end Go.Proofs.YtglajokjiphafaaDoor.P

set_option linter.unusedSimpArgs false
set_option linter.unusedVariables false
namespace Go.Proofs.YtglajokjiphafaaDoor.P
open Go.Lib Go.RowKit Go.Proofs.YtglajokjiphafaaDoorW.PrintWords Go.Proofs.YtglajokjiphafaaDoorW.PrintLast Go.Proofs.YtglajokjiphafaaDoorW.PrintMore Go.Proofs.YtglajokjiphafaaDoor.Kit
attribute [local go_sem] max2_int min2_int max_two min_two max_three min_three max_four min_four
section
variable {σ : Type} {step : σ → List Int → Option (σ × Bool)} {n many : Nat} {J : σ → World → Prop} {B g : Nat} {lb : Array Value}
set_option maxHeartbeats 4000000
set_option maxRecDepth 100000
theorem subsets_calls (V : Visits step n many J B g lb) (hn : n ≤ 100) (hm : many ≤ 100) (st st' : σ) (b : Bool) (W : World) (h : subs step n many st [] 0 = some (st', b)) (hJ : J st W) :
    Calls Tryd.prog 45 #[.int .i64 (n : Int), .int .i64 (many : Int), .func (.func g) #[] lb] W fun e w' => e = .returned (.bool b) ∧ J st' w' ∧ Kp W w' ∧ Below B W w' := by
  have eo : ∀ args w, (callFunc 77 args).run Tryd.prog w = .ok (.enter 77 args) w := enters_of Tryd.func77 (by kernel_rfl) rfl
  have B1 : ∀ (w : World) o, Below w.heap.size w (w.alloc o) := fun w o => below_alloc (Below.refl _ _) o
  have hsz : ∀ (w : World) o, (w.alloc o).heap.size = w.heap.size + 1 := fun w o => Array.size_push ..
  have hcall : ∀ (o1 o2 o3 o4 : Value) (t1 t2 t3 t4 : TypeId), (t1 ≠ 25 ∧ t1 ≠ 22) ∧ (t2 ≠ 25 ∧ t2 ≠ 22) ∧ (t3 ≠ 25 ∧ t3 ≠ 22) ∧ (t4 ≠ 25 ∧ t4 ≠ 22) → o1 = .int .i64 (n : Int) → o2 = .int .i64 (many : Int) → o3 = .func (.func g) #[] lb → o4 = .func (.func 77) #[] #[.pointer (some ⟨W.heap.size + 1, 0, none⟩), .pointer (some ⟨W.heap.size + 1 + 1, 0, none⟩), .pointer (some ⟨W.heap.size, 0, none⟩), .pointer (some ⟨W.heap.size + 1 + 1 + 1, 0, none⟩)] →
      Calls Tryd.prog 77 #[.slice none 0 0, .int .i64 0, .pointer (some ⟨W.heap.size + 1, 0, none⟩), .pointer (some ⟨W.heap.size + 1 + 1, 0, none⟩), .pointer (some ⟨W.heap.size, 0, none⟩), .pointer (some ⟨W.heap.size + 1 + 1 + 1, 0, none⟩)]
        ((((W.alloc (Obj.cells #[o1] t1)).alloc (Obj.cells #[o2] t2)).alloc (Obj.cells #[o3] t3)).alloc (Obj.cells #[o4] t4)) fun e w' => e = .returned (.bool b) ∧ J st' w' ∧ Kp W w' ∧ Below B W w' := by
    intro o1 o2 o3 o4 t1 t2 t3 t4 ht h1 h2 h3 h4
    have k1 := heap_alloc_new W (Obj.cells #[o1] t1)
    have hA := B1 W (Obj.cells #[o1] t1)
    have z1 := hsz W (Obj.cells #[o1] t1)
    generalize W.alloc (Obj.cells #[o1] t1) = W1 at *
    have k2 := heap_alloc_new W1 (Obj.cells #[o2] t2)
    have hA2 := B1 W1 (Obj.cells #[o2] t2)
    have z2 := hsz W1 (Obj.cells #[o2] t2)
    generalize W1.alloc (Obj.cells #[o2] t2) = W2 at *
    have k3 := heap_alloc_new W2 (Obj.cells #[o3] t3)
    have hA3 := B1 W2 (Obj.cells #[o3] t3)
    have z3 := hsz W2 (Obj.cells #[o3] t3)
    generalize W2.alloc (Obj.cells #[o3] t3) = W3 at *
    have k4 := heap_alloc_new W3 (Obj.cells #[o4] t4)
    have hA4 := B1 W3 (Obj.cells #[o4] t4)
    generalize W3.alloc (Obj.cells #[o4] t4) = W4 at *
    rw [z1] at k2
    rw [z2, z1] at k3
    rw [z3, z2, z1] at k4
    subst h1 h2 h3 h4
    have k1' := (Kp.of_below ((hA2.trans (hA3.mono (by omega))).trans (hA4.mono (by omega)))).blk k1 ht.1.1 ht.1.2
    have k2' := (Kp.of_below (hA3.trans (hA4.mono (by omega)))).blk k2 ht.2.1.1 ht.2.1.2
    have k3' := (Kp.of_below hA4).blk k3 ht.2.2.1.1 ht.2.2.1.2
    have hB4 : Below W.heap.size W W4 := ((hA.trans (hA2.mono (by omega))).trans (hA3.mono (by omega))).trans (hA4.mono (by omega))
    have hO : OnAt n many g lb (W.heap.size + 1) (W.heap.size + 1 + 1) W.heap.size (W.heap.size + 1 + 1 + 1) W4 := ⟨⟨t2, _, k2', ht.2.1⟩, ⟨t3, _, k3', ht.2.2.1⟩, ⟨t1, _, k1', ht.1⟩, ⟨t4, _, k4, ht.2.2.2⟩⟩
    refine (on_calls V hn hm _ _ _ _ many st st' b [] 0 none 0 W W4 h (by simp) (fun x hx => by cases hx) (by omega) hJ hB4 hO ⟨rfl, .inl ⟨rfl, rfl⟩⟩).mono ?_
    rintro e w' ⟨he, h1, h2, h3⟩
    exact ⟨he, h1, (Kp.of_below hB4).trans h2, (hB4.mono (V.le _ _ hJ)).trans h3⟩
  have HCa := Aside0.mk hcall
  clear hcall hJ h B1 hsz
  go_enter Tryd.func45, Tryd.ntmps45
  go_wp2_with (first | (go_at_fn 77; (refine (HCa.out _ _ _ _ _ _ _ _ (by decide) rfl rfl rfl rfl).mono ?_); rintro e w1 ⟨rfl, hJ1, hk1, hb1⟩; have HJ1 := Aside0.mk hJ1; have HK1 := Aside0.mk hk1; have HB1 := Aside0.mk hb1; clear hJ1 hk1 hb1; dsimp only))
  go_ret
  exact ⟨rfl, HJ1.out, HK1.out, HB1.out⟩
end
end Go.Proofs.YtglajokjiphafaaDoor.P

set_option linter.unusedSimpArgs false
set_option linter.unusedVariables false
namespace Go.Proofs.YtglajokjiphafaaDoor.P
open Go.Lib Go.RowKit Go.Proofs.YtglajokjiphafaaDoorW.PrintWords Go.Proofs.YtglajokjiphafaaDoorW.PrintLast Go.Proofs.YtglajokjiphafaaDoorW.PrintMore Go.Proofs.YtglajokjiphafaaDoor.Kit
attribute [local go_sem] max2_int min2_int max_two min_two max_three min_three max_four min_four

theorem contains_calls (A : Option Addr) (c : Nat) (l : List Int) (x : Int) (b : Bool) (w : World) (h : RowAt w A c l) (hb : l.contains x = b) :
    Calls Tryd.prog 47 #[.slice A l.length c, .int .i64 x] w fun e w' => e = .returned (.bool b) ∧ w' = w := by
  subst hb
  rcases h.cases with ⟨rfl, rfl, rfl⟩ | ⟨ad, rfl⟩
  · exact Tryd.slices_Contains_int_empty none 0 x w
  · have hr := h.reads.1
    rcases h.2 with ⟨h1, _⟩ | ⟨g, cap, cur, h1, h2⟩
    · cases h1
    · injection h1 with e1 e2 e3
      injection e1 with e1
      subst e1
      refine (Tryd.slices_Contains_int g 0 l.length c l x w (Nat.le_refl _) hr.2.1 (fun j hj => ?_)).mono ?_
      · have := h.cells _ rfl j (.int .i64 (l.getD j 0)) (by simp [nums, List.getElem?_eq_getElem hj])
        simp only [Addr.add] at this
        split at this
        · rename_i hz; subst hz; exact this
        · exact this
      · rintro e w' ⟨rfl, rfl⟩
        rw [List.take_of_length_le (Nat.le_refl _)]
        exact ⟨rfl, rfl⟩
/-- A row of words of its own. -/
def WordsAt (W : World) (A : Option Addr) (c : Nat) (l : List Int) : Prop := W.ownsRow 0 70 1 (.slice A l.length c) l.length (nums .u64 l)
theorem WordsAt.kp {W W' : World} {A : Option Addr} {c : Nat} {l : List Int} (h : WordsAt W A c l) (k : Kp W W') : WordsAt W' A c l := by
  refine ⟨h.1, ?_⟩
  rcases h.2 with h | ⟨g, cap, cur, h1, h2, h3, h4⟩
  · exact .inl h
  · exact .inr ⟨g, cap, cur, h1, h2, k.blk h3 (by decide) (by decide), h4⟩
theorem WordsAt.reads {W : World} {A : Option Addr} {c : Nat} {l : List Int} (h : WordsAt W A c l) : Kd.C (Kd.int .u64) W A l.length l ∧ l.length ≤ c := by
  obtain ⟨A', c', h1, h2, h3⟩ := Kd.R_reads (R_int_mk0 (ok := fun _ => True) (fun _ _ => trivial) h)
  injection h1 with e1 e2 e3
  subst e1 e3
  exact ⟨h3, h2⟩
/-- What the visitor keeps. -/
structure HidAt (B : Nat) (cols : List Int) (t : Int) (Bt Bc Bf : Nat) (st : List Int) (W : World) : Prop where
  t : ∃ T f, W.heap[Bt]? = some (.cells #[.int .i64 t] T f) ∧ T ≠ 25 ∧ T ≠ 22
  c : ∃ A c T f, W.heap[Bc]? = some (.cells #[.slice A cols.length c] T f) ∧ (T ≠ 25 ∧ T ≠ 22) ∧ WordsAt W A c cols
  f : ∃ A c, W.heap[Bf]? = some (.cells #[.slice A st.length c] 25 (0, 0)) ∧ RowB B W A c st
theorem HidAt.keep {B : Nat} {cols : List Int} {t : Int} {Bt Bc Bf : Nat} {st : List Int} {W W' : World} (h : HidAt B cols t Bt Bc Bf st W) (hb : Below W.heap.size W W') : HidAt B cols t Bt Bc Bf st W' := by
  obtain ⟨⟨T1, f1, a1, b1⟩, ⟨A2, c2, T2, f2, a2, b2, w2⟩, ⟨A3, c3, a3, w3⟩⟩ := h
  have k := Kp.of_below hb
  exact ⟨⟨T1, f1, k.blk a1 b1.1 b1.2, b1⟩, ⟨A2, c2, T2, f2, k.blk a2 b2.1 b2.2, b2, w2.kp k⟩, ⟨A3, c3, (hb.block Bf (Array.getElem?_eq_some_iff.1 a3).1).trans a3, w3.kp k⟩⟩
/-- The found list is put into its box. -/
theorem HidAt.put {B : Nat} {cols : List Int} {t : Int} {Bt Bc Bf : Nat} {st : List Int} {W : World} (h : HidAt B cols t Bt Bc Bf st W) {A : Option Addr} {c : Nat} {l : List Int} (hr : RowB B W A c l) :
    HidAt B cols t Bt Bc Bf l (W.setCell ⟨Bf, 0, none⟩ (.slice A l.length c)) ∧ Kp W (W.setCell ⟨Bf, 0, none⟩ (.slice A l.length c)) := by
  obtain ⟨⟨T1, f1, a1, b1⟩, ⟨A2, c2, T2, f2, a2, b2, w2⟩, ⟨A3, c3, a3, w3⟩⟩ := h
  have k : Kp W (W.setCell ⟨Bf, 0, none⟩ (.slice A l.length c)) := Kept.setCell (Kept.refl W _) (p := ⟨Bf, 0, none⟩) (.inl ⟨_, _, _, a3, .inl rfl⟩) _
  refine ⟨⟨⟨T1, f1, k.blk a1 b1.1 b1.2, b1⟩, ⟨A2, c2, T2, f2, k.blk a2 b2.1 b2.2, b2, w2.kp k⟩, ⟨A, c, ?_, hr.kp k⟩⟩, k⟩
  simp only [World.setCell, Array.getElem?_modify, if_true, a3, Option.map_some]
  rfl
/-- One set is looked at. -/
def hidStep (cols : List Int) (t : Int) (st l : List Int) : Option (List Int × Bool) :=
  if l.contains t = true then some (st, false) else
    (find_dark.f (l.length + 1) cols l).bind fun x => if (Go.bits .andNot .u64 (rd cols t) x) ≠ 0 then some (st, false) else some (t :: l, true)
theorem nums_one (k : IntKind) (l : List Int) : ∀ u ∈ nums k l, u.oneCell' = true := by
  intro u hu
  obtain ⟨q, _, rfl⟩ := List.mem_map.1 hu
  rfl
/-- What lies behind the append of a row onto a new one. -/
theorem found_tail (W w1 : World) {t : Int} {l : List Int} {v9 : Value} (n : Nat) {o : Obj} {Bf : Nat} (hlB : Bf < W.heap.size) {fv : Value}
    (ho : w1.ownsRow W.heap.size 3 1 v9 (1 + l.length) ([.int .i64 t] ++ nums .i64 l)) (hg : ((W.drewN n).alloc o).grownBy w1 (some W.heap.size)) (hf : W.heap[Bf]? = some (.cells #[fv] 25 (0, 0))) :
    ∃ A c, v9 = .slice A (t :: l).length c ∧ RowB W.heap.size w1 A c (t :: l) ∧ Below W.heap.size W w1 ∧ w1.cell? ⟨Bf, 0, none⟩ = some fv ∧ w1.frozen? ⟨Bf, 0, none⟩ = false := by
  have hl : (t :: l).length = 1 + l.length := by simp; omega
  have hb : Below W.heap.size W w1 := pw_below_grown (below_alloc (pw_below_drewN (Below.refl W.heap.size W) n) o) _ (Nat.le_of_lt (Nat.lt_of_lt_of_le (Nat.lt_succ_self _) (Nat.le_of_eq (Array.size_push ..).symm))) hg (fun k hk => by injection hk with hk; omega)
  have hB := (hb.block Bf hlB).trans hf
  have h2 : w1.ownsRow W.heap.size 3 1 v9 (t :: l).length (nums .i64 (t :: l)) := by rw [hl]; exact ho
  rcases h2.2 with ⟨e1, e2⟩ | ⟨g, cap, cur, h1, h3, h4⟩
  · omega
  · refine ⟨_, cap, h1, ⟨h2.1, .inr ⟨g, cap, cur, rfl, h3, h4⟩⟩, hb, by unfold World.cell?; rw [hB]; rfl, by unfold World.frozen?; rw [hB]; rfl⟩
set_option maxHeartbeats 4000000
set_option maxRecDepth 100000
theorem hid_found (cols : List Int) (t : Int) (ht : 0 ≤ t ∧ t < cols.length) (B Bt Bc Bf : Nat) (hle : B ≤ Bf) (st : List Int) (l : List Int) (al : Addr) (c : Nat) (W : World) (x : Int)
    (hcf : l.contains t = false) (hd : find_dark.f (l.length + 1) cols l = some x) (hz : Go.bits .andNot .u64 (rd cols t) x = 0) (hl : l.length ≤ 100) (hJ : HidAt B cols t Bt Bc Bf st W) (hR : RowAt W (some al) c l) :
    Calls Tryd.prog 46 #[.slice (some al) l.length c, .pointer (some ⟨Bt, 0, none⟩), .pointer (some ⟨Bc, 0, none⟩), .pointer (some ⟨Bf, 0, none⟩)] W fun e w' => e = .returned (.bool true) ∧ HidAt B cols t Bt Bc Bf (t :: l) w' ∧ Kp W w' ∧ Below B W w' := by
  have HJ := Aside0.mk hJ
  obtain ⟨⟨T1, f1, a1, _⟩, ⟨A2, c2, T2, f2, a2, _, w2⟩, ⟨A3, c3, a3, _⟩⟩ := hJ
  have k1 : W.cell? ⟨Bt, 0, none⟩ = some (.int .i64 t) := by unfold World.cell?; rw [a1]; rfl
  have k2 : W.cell? ⟨Bc, 0, none⟩ = some (.slice A2 cols.length c2) := by unfold World.cell?; rw [a2]; rfl
  have HC := Aside0.mk w2.reads.1
  have HCc := Aside0.mk w2.reads.2
  have HR := Aside0.mk hR
  obtain ⟨ad, e2, hx⟩ := Kd.at_int HC.out t ht.1 ht.2
  subst e2
  have p0 := eq_true ht.1
  have p1 := eq_true ht.2
  have HD := Aside0.mk hd
  have Hc := Aside0.mk hcf
  have HRr := Aside0.mk hR.reads
  generalize hv : rd cols t = v at hx hz
  have z1 : (Go.bits .andNot .u64 v x == 0) = true := beq_iff_eq.2 hz
  have z2 : (Go.bits .andNot .u64 v x != 0) = false := by simp [hz]
  have a3' := a3
  clear hR hcf a1 a2 a3 w2 hd hv hz
  have hfc : W.cell? ⟨Bf, 0, none⟩ = some (.slice A3 st.length c3) := by unfold World.cell?; rw [a3']; rfl
  have hff : W.frozen? ⟨Bf, 0, none⟩ = false := by unfold World.frozen?; rw [a3']; rfl
  have HA3 := Aside0.mk a3'
  have hlB : Bf < W.heap.size := (Array.getElem?_eq_some_iff.1 a3').1
  have hi3 := info3
  obtain ⟨i0', hi0, hi1⟩ := Option.map_eq_some_iff.1 hi3
  injection hi1 with hz0 hi2
  injection hi2 with hz1 hz2
  have hI0 := Aside0.mk (show Tryd.prog.info? 3 = some i0' from hi0)
  have hZ0 := Aside0.mk hz0
  have hZ1 := Aside0.mk hz1
  have hZ2 := Aside0.mk hz2
  have HLL := Aside0.mk hl
  clear hi3 hi0 hz0 hz1 hz2 a3' hl hfc hff
  go_enter Tryd.func46, Tryd.ntmps46
  go_wp2
  (go_quiet ((first | (go_at_call 47; exact Calls.quiet_of_same (contains_calls (some al) c l t false _ HR.out Hc.out)) | (go_at_call 48; exact Calls.quiet_of ((find_dark.calls _ (some ad) c2 cols (some al) c l x _ (Kd.C_drewN HC.out _) HCc.out (Kd.C_drewN HRr.out.1 _) HRr.out.2 HD.out).mono (by rintro e w' ⟨rfl, nd, rfl⟩; exact ⟨rfl, nd, rfl⟩))))))
  go_wp2_with (((with_reducible refine gate_dst (N := 23) rfl ?_); refine wpList_append_own_at _ (by rfl) (.tmp 21) (.tmp 22) 25 (by rfl) W.heap.size 3 i0' (.int .i64 0) 1 8 Tryd.underlying25 hI0.out hZ0.out hZ1.out hZ2.out (by rfl) (by decide) (.slice (some ⟨W.heap.size, 0, none⟩) 1 1) 1 [.int .i64 t] (by rfl) ?hown al l.length c (nums .i64 l) (by rfl) (by rw [nums_length, Nat.mul_one]) ?hnews ?hone ?h63 ?hby ?hbase ?_; (case hown => exact ⟨rfl, .inr ⟨_, 1, _, rfl, Nat.le_refl _, heap_alloc_new (W.drewN _) _, Nat.le_refl _, by decide, rfl, rfl⟩⟩); (case hnews => exact (HR.out.kp (Kp.of_below (below_alloc (pw_below_drewN (Below.refl _ _) _) _))).cells _ rfl); (case hone => exact nums_one .i64 l); (case h63 => unfold maxLen; have := HLL.out; omega); (case hby => have := HLL.out; omega); (case hbase => exact Nat.le_of_lt (Nat.lt_of_lt_of_le (Nat.lt_succ_self _) (Nat.le_of_eq (Array.size_push ..).symm))); intro v9 w9 ho9 hg9 _ _; obtain ⟨A9, c9, e9, hr9, hb9, hc9, hf9⟩ := found_tail W _ _ hlB ho9 hg9 HA3.out; subst e9; have HR9 := Aside0.mk hr9; have HB9 := Aside0.mk hb9; clear ho9 hg9 hr9 hb9))
  go_ret
  have hp := (HJ.out.keep HB9.out).put (HR9.out.mono (Nat.le_trans hle (Nat.le_of_lt hlB)))
  exact ⟨rfl, hp.1, (Kp.of_below HB9.out).trans hp.2, (HB9.out.mono (Nat.le_trans hle (Nat.le_of_lt hlB))).setCell hle _⟩
end Go.Proofs.YtglajokjiphafaaDoor.P

set_option linter.unusedSimpArgs false
set_option linter.unusedVariables false
namespace Go.Proofs.YtglajokjiphafaaDoor.P
open Go.Lib Go.RowKit Go.Proofs.YtglajokjiphafaaDoorW.PrintWords Go.Proofs.YtglajokjiphafaaDoorW.PrintLast Go.Proofs.YtglajokjiphafaaDoorW.PrintMore Go.Proofs.YtglajokjiphafaaDoor.Kit

theorem risFrom_at {n : Int} {l : List Int} : ∀ d i, risFrom n l d i = true → ∀ j, i ≤ j → j < i + d → risStep n l j = true := by
  intro d
  induction d with
  | zero => intro i _ j h1 h2; omega
  | succ d ih =>
    intro i h j h1 h2
    simp only [risFrom, Bool.and_eq_true] at h
    by_cases e : j = i
    · subst e; exact h.1
    · exact ih (i + 1) h.2 j (by omega) (by omega)
theorem ris_at {n : Int} {l : List Int} (h : risB n l = true) (j : Nat) (hj : j < l.length) : (0 ≤ l[j] ∧ l[j] < n) ∧ ∀ hp : 0 < j, l[j - 1] < l[j] := by
  have h1 := risFrom_at _ _ h j (by omega) (by omega)
  simp only [risStep, Bool.and_eq_true, Bool.or_eq_true, decide_eq_true_eq] at h1
  rw [rd_get l j hj] at h1
  refine ⟨⟨h1.1, h1.2.1⟩, fun hp => ?_⟩
  rcases h1.2.2 with h2 | h2
  · omega
  · rwa [rd_get l (j - 1) (by omega)] at h2
theorem ris_mem {n : Int} {l : List Int} (h : risB n l = true) : ∀ x ∈ l, 0 ≤ x ∧ x < n := by
  intro x hx
  obtain ⟨j, hj, rfl⟩ := List.mem_iff_getElem.1 hx
  exact (ris_at h j hj).1
theorem ris_ge {n : Int} {l : List Int} (h : risB n l = true) : ∀ j (hj : j < l.length), (j : Int) ≤ l[j] := by
  intro j
  induction j with
  | zero => intro hj; exact (ris_at h 0 hj).1.1
  | succ j ih =>
    intro hj
    have h1 := ih (by omega)
    have h2 := (ris_at h (j + 1) hj).2 (by omega)
    simp only [Nat.add_sub_cancel] at h2
    omega
theorem ris_length {n : Int} {l : List Int} (h : risB n l = true) (hn : 0 ≤ n) : (l.length : Int) ≤ n := by
  by_cases e : l.length = 0
  · omega
  · have h1 := ris_ge h (l.length - 1) (by omega)
    have h2 := (ris_at h (l.length - 1) (by omega)).1.2
    omega
theorem ofN_ok {n : Int} {d : List (List Int)} (h : ofN n d = 0) : (1 ≤ n ∧ n ≤ 49) ∧ d.length ≤ 60 ∧ ∀ r ∈ d, risB n r = true := by
  unfold ofN at h
  by_cases h1 : 1 ≤ n ∧ n ≤ 49
  · rw [if_pos h1] at h
    by_cases h2 : d.length ≤ 60
    · rw [if_pos h2] at h
      by_cases h3 : d.all (risB n) = true
      · exact ⟨h1, h2, fun r hr => List.all_eq_true.1 h3 r hr⟩
      · rw [if_neg h3] at h; omega
    · rw [if_neg h2] at h; omega
  · rw [if_neg h1] at h; omega
theorem ofN_rows {n : Nat} {d : List (List Int)} (h : ofN (n : Int) d = 0) : RowsIn n d := fun r hr => ris_mem ((ofN_ok h).2.2 r hr)
theorem ofN_lens {n : Nat} {d : List (List Int)} (h : ofN (n : Int) d = 0) : ∀ r ∈ d, r.length ≤ 4611686018427387904 := fun r hr => by
  have h1 := ris_length ((ofN_ok h).2.2 r hr) (by omega)
  have h2 := (ofN_ok h).1
  omega
/-- Has every test with a tube one of others? -/
def hidB (d : List (List Int)) (t : Int) (l : List Int) : Bool := d.all fun r => !r.contains t || l.any fun x => r.contains x
def goodB (d : List (List Int)) (t : Int) (l : List Int) : Bool := !l.contains t && hidB d t l
theorem hidB_iff (d : List (List Int)) (t : Int) (l : List Int) : hidB d t l = true ↔ andn (fam t d) (darkN d l) = 0 := by
  constructor
  · intro h
    refine Nat.eq_of_testBit_eq fun i => ?_
    rw [testBit_andn, testBit_fam, testBit_darkN, Nat.zero_testBit]
    by_cases hi : i < d.length
    · have h1 := List.all_eq_true.1 h d[i] (List.getElem_mem hi)
      rw [show d.getD i [] = d[i] by simp [hi]]
      revert h1
      cases d[i].contains t <;> cases (l.any fun x => d[i].contains x) <;> simp
    · rw [getD_past d i [] (by omega)]; rfl
  · intro h
    refine List.all_eq_true.2 fun r hr => ?_
    obtain ⟨i, hi, rfl⟩ := List.mem_iff_getElem.1 hr
    have h1 : (andn (fam t d) (darkN d l)).testBit i = false := by rw [h, Nat.zero_testBit]
    rw [testBit_andn, testBit_fam, testBit_darkN, show d.getD i [] = d[i] by simp [hi]] at h1
    revert h1
    cases d[i].contains t <;> cases (l.any fun x => d[i].contains x) <;> simp
/-- One set is looked at. -/
def hidS (d : List (List Int)) (t : Int) (st l : List Int) : List Int × Bool := if goodB d t l = true then (t :: l, true) else (st, false)
theorem hidStep_eq (n : Nat) (d : List (List Int)) (hd : d.length ≤ 60) (t : Nat) (ht : t < n) (st l : List Int) (hl : ∀ x ∈ l, 0 ≤ x ∧ x < (n : Int)) (hll : l.length ≤ 100) :
    hidStep (colsOf n d) (t : Int) st l = some (hidS d (t : Int) st l) := by
  unfold hidStep hidS goodB
  cases hc : l.contains (t : Int) with
  | true => rfl
  | false =>
    rw [if_neg (by decide), dark_f n d hd l hl (by omega) (l.length + 1) (by omega), Option.bind_some, rd_colsOf n d t ht, andnu _ _ (fam_lt64 _ (by omega)) (darkN_lt64 (by omega) _)]
    have h := hidB_iff d (t : Int) l
    cases hb : hidB d (t : Int) l with
    | true => rw [h.1 hb]; rfl
    | false =>
      have : andn (fam (t : Int) d) (darkN d l) ≠ 0 := fun h0 => by rw [h.2 h0] at hb; cases hb
      rw [if_pos (by omega)]; rfl
/-- All lists of so many numbers more, ascending, from one on. -/
def cmb (n : Nat) : Nat → Nat → List (List Int)
  | 0, _ => [[]]
  | m + 1, i => (List.range' i (n - i)).flatMap fun t => (cmb n m (t + 1)).map ((t : Int) :: ·)
def firstOf (q : List Int → Bool) (t : Int) (st l : List Int) (ys : List (List Int)) : List Int × Bool :=
  match ys.find? (fun y => q (l ++ y)) with
  | some y => (t :: (l ++ y), true)
  | none => (st, false)
theorem subs_first (d : List (List Int)) (t : Int) (n : Nat) : ∀ (m : Nat) (st l : List Int) (i : Nat),
    subs (fun st l => some (hidS d t st l)) n m st l i = some (firstOf (goodB d t) t st l (cmb n m i)) := by
  intro m
  induction m with
  | zero =>
    intro st l i
    show some (hidS d t st l) = _
    unfold hidS firstOf cmb
    cases h : goodB d t l <;> simp [List.find?, h]
  | succ m ih =>
    intro st l i
    show (List.range' i (n - i)).foldlM _ (st, false) = _
    have key : ∀ (L : List Nat), L.foldlM (fun (p : List Int × Bool) (u : Nat) => if p.2 = true then some p else subs (fun st l => some (hidS d t st l)) n m p.1 (l ++ [(u : Int)]) (u + 1)) (st, false) = some (firstOf (goodB d t) t st l (L.flatMap fun u => (cmb n m (u + 1)).map ((u : Int) :: ·))) := by
      intro L
      induction L with
      | nil => rfl
      | cons u L ihL =>
        rw [List.foldlM_cons]
        have h1 := ih st (l ++ [(u : Int)]) (u + 1)
        refine (congrArg (fun o => Option.bind o (fun init => L.foldlM (fun (p : List Int × Bool) (u : Nat) => if p.2 = true then some p else subs (fun st l => some (hidS d t st l)) n m p.1 (l ++ [(u : Int)]) (u + 1)) init)) h1).trans ?_
        show L.foldlM _ (firstOf (goodB d t) t st (l ++ [(u : Int)]) (cmb n m (u + 1))) = _
        unfold firstOf
        rw [List.flatMap_cons, List.find?_append, List.find?_map]
        have hq : (fun y => goodB d t (l ++ y)) ∘ (fun y => (u : Int) :: y) = fun y => goodB d t (l ++ [(u : Int)] ++ y) := by
          funext y; simp
        rw [hq]
        cases hf : (cmb n m (u + 1)).find? fun y => goodB d t (l ++ [(u : Int)] ++ y) with
        | some y =>
          have := foldlM_true (f := fun (s : List Int) (u : Nat) => subs (fun st l => some (hidS d t st l)) n m s (l ++ [(u : Int)]) (u + 1)) L (t :: (l ++ [(u : Int)] ++ y))
          refine Eq.trans this ?_
          simp
        | none =>
          simp only [Option.map_none, Option.none_or]
          exact ihL
    exact key _
/-- What Hidden finds. -/
def hidM (n : Nat) (d : List (List Int)) (t m : Nat) : Option (List Int) := ((cmb n m 0).find? (goodB d (t : Int))).map ((t : Int) :: ·)
def hidT (n : Nat) (d : List (List Int)) (D t : Nat) : Option (List Int) := (List.range' 0 (D + 1)).findSome? (hidM n d t)
def hidL (n : Nat) (d : List (List Int)) (D : Nat) : List Int := ((List.range' 0 n).findSome? (hidT n d D)).getD []
def hidP (n : Int) (d : List (List Int)) (D : Int) : List Int × Int :=
  if ofN n d = 0 then (if 0 ≤ D ∧ D ≤ 3 then (hidL n.toNat d D.toNat, 0) else ([], 2)) else ([], ofN n d)
theorem subs_hidM (d : List (List Int)) (t n m : Nat) : subs (fun st l => some (hidS d (t : Int) st l)) n m [] [] 0 = some ((hidM n d t m).getD [], (hidM n d t m).isSome) := by
  rw [subs_first]
  unfold firstOf hidM
  simp only [List.nil_append]
  cases (cmb n m 0).find? (goodB d (t : Int)) <;> rfl
end Go.Proofs.YtglajokjiphafaaDoor.P

set_option linter.unusedSimpArgs false
set_option linter.unusedVariables false
namespace Go.Proofs.YtglajokjiphafaaDoor.P
open Go.Lib Go.RowKit Go.Proofs.YtglajokjiphafaaDoorW.PrintWords Go.Proofs.YtglajokjiphafaaDoorW.PrintLast Go.Proofs.YtglajokjiphafaaDoorW.PrintMore Go.Proofs.YtglajokjiphafaaDoor.Kit
attribute [local go_sem] max2_int min2_int max_two min_two max_three min_three max_four min_four

set_option maxHeartbeats 4000000
set_option maxRecDepth 100000
theorem hid_visit (cols : List Int) (t : Int) (ht : 0 ≤ t ∧ t < cols.length) (B Bt Bc Bf : Nat) (hle : B ≤ Bf) (st st' : List Int) (b : Bool) (l : List Int) (A : Option Addr) (c : Nat) (W : World)
    (hs : hidStep cols t st l = some (st', b)) (hl : l.length ≤ 100) (hJ : HidAt B cols t Bt Bc Bf st W) (hR : RowAt W A c l) :
    Calls Tryd.prog 46 #[.slice A l.length c, .pointer (some ⟨Bt, 0, none⟩), .pointer (some ⟨Bc, 0, none⟩), .pointer (some ⟨Bf, 0, none⟩)] W fun e w' => e = .returned (.bool b) ∧ HidAt B cols t Bt Bc Bf st' w' ∧ Kp W w' ∧ Below B W w' := by
  have HJ := Aside0.mk hJ
  obtain ⟨⟨T1, f1, a1, _⟩, ⟨A2, c2, T2, f2, a2, _, w2⟩, ⟨A3, c3, a3, _⟩⟩ := hJ
  have k1 : W.cell? ⟨Bt, 0, none⟩ = some (.int .i64 t) := by unfold World.cell?; rw [a1]; rfl
  have k2 : W.cell? ⟨Bc, 0, none⟩ = some (.slice A2 cols.length c2) := by unfold World.cell?; rw [a2]; rfl
  have HC := Aside0.mk w2.reads.1
  have HCc := Aside0.mk w2.reads.2
  have HR := Aside0.mk hR
  obtain ⟨ad, e2, hx⟩ := Kd.at_int HC.out t ht.1 ht.2
  subst e2
  have p0 := eq_true ht.1
  have p1 := eq_true ht.2
  unfold hidStep at hs
  by_cases hc : l.contains t = true
  · rw [if_pos hc] at hs
    injection hs with hs
    injection hs with h1 h2
    subst h1 h2
    have HCo := Aside0.mk (fun w => contains_calls A c l t true w)
    have Hc := Aside0.mk hc
    clear hR hc a1 a2 a3 w2
    go_enter Tryd.func46, Tryd.ntmps46
    go_wp2
    repeat (go_quiet ((go_at_call 47; exact Calls.quiet_of_same (contains_calls A c l t true _ HR.out Hc.out))); try go_wp2)
    go_ret
    exact ⟨rfl, HJ.out.keep (by repeat (first | exact Below.refl _ _ | apply pw_below_drewN | apply below_drew)), Kp.of_below (by repeat (first | exact Below.refl _ _ | apply pw_below_drewN | apply below_drew)), by repeat (first | exact Below.refl _ _ | apply pw_below_drewN | apply below_drew)⟩
  · rw [if_neg hc] at hs
    have hcf : l.contains t = false := by simpa using hc
    obtain ⟨x, hd, hs⟩ := Option.bind_eq_some_iff.1 hs
    have HD := Aside0.mk hd
    have Hc := Aside0.mk hcf
    have HRr := Aside0.mk hR.reads
    generalize hv : rd cols t = v at hx hs
    have HV := Aside0.mk hv
    by_cases hz : Go.bits .andNot .u64 v x = 0
    · rw [if_neg (by simpa using hz)] at hs
      injection hs with hs
      injection hs with h1 h2
      subst h1 h2
      have z1 : (Go.bits .andNot .u64 v x == 0) = true := beq_iff_eq.2 hz
      have z2 : (Go.bits .andNot .u64 v x != 0) = false := by simp [hz]
      have a3' := a3
      have hR' := hR
      clear hR hc hcf a1 a2 a3 w2 hd hv hz
      have hfc : W.cell? ⟨Bf, 0, none⟩ = some (.slice A3 st.length c3) := by unfold World.cell?; rw [a3']; rfl
      have hff : W.frozen? ⟨Bf, 0, none⟩ = false := by unfold World.frozen?; rw [a3']; rfl
      have hfc2 : ∀ n o, ((W.drewN n).alloc o).cell? ⟨Bf, 0, none⟩ = some (.slice A3 st.length c3) := fun n o => pw_cell_below (below_alloc (pw_below_drewN (Below.refl _ _) n) o) hfc
      have hfb : ∀ n o, ((W.drewN n).alloc o).heap[Bf]? = some (.cells #[.slice A3 st.length c3] 25 (0, 0)) := fun n o => ((below_alloc (pw_below_drewN (Below.refl W.heap.size W) n) o).block Bf (Array.getElem?_eq_some_iff.1 a3').1).trans a3'
      have hff2 : ∀ n o, ((W.drewN n).alloc o).frozen? ⟨Bf, 0, none⟩ = false := fun n o => by unfold World.frozen?; rw [hfb n o]; rfl
      have HA3 := Aside0.mk a3'
      clear a3'
      rcases hR'.cases with ⟨eA, el, ec⟩ | ⟨al, eA⟩
      · subst eA el ec
        change Calls _ _ #[.slice none 0 0, _, _, _] W _
        go_enter Tryd.func46, Tryd.ntmps46
        go_wp2
        (go_quiet ((first | (go_at_call 47; exact Calls.quiet_of_same (contains_calls none 0 [] t false _ HR.out Hc.out)) | (go_at_call 48; exact Calls.quiet_of ((find_dark.calls _ (some ad) c2 cols none 0 [] x _ (Kd.C_drewN HC.out _) HCc.out (Kd.C_drewN HRr.out.1 _) HRr.out.2 HD.out).mono (by rintro e w' ⟨rfl, nd, rfl⟩; exact ⟨rfl, nd, rfl⟩))))); try go_wp2)
        go_ret
        have hbw : ∀ n o, Below W.heap.size W ((W.drewN n).alloc o) := fun n o => below_alloc (pw_below_drewN (Below.refl _ _) n) o
        have hrow : ∀ n, RowB B ((W.drewN n).alloc (Obj.cells #[.int .i64 t] 3)) (some ⟨W.heap.size, 0, none⟩) 1 [t] := fun n => ⟨rfl, .inr ⟨_, 1, _, rfl, Nat.le_trans hle (Nat.le_of_lt (Array.getElem?_eq_some_iff.1 HA3.out).1), heap_alloc_new (W.drewN n) _, Nat.le_refl _, by decide, rfl, rfl⟩⟩
        have hp := fun n => (HJ.out.keep (hbw n _)).put (hrow n)
        exact ⟨rfl, (hp _).1, (Kp.of_below (hbw _ _)).trans (hp _).2, ((hbw _ _).mono (Nat.le_trans hle (Nat.le_of_lt (Array.getElem?_eq_some_iff.1 HA3.out).1))).setCell hle _⟩
      · subst eA
        exact hid_found cols t ht B Bt Bc Bf hle st l al c W x Hc.out HD.out (by rw [HV.out]; exact beq_iff_eq.1 z1) hl HJ.out HR.out
    · rw [if_pos hz] at hs
      injection hs with hs
      injection hs with h1 h2
      subst h1 h2
      have z1 : (Go.bits .andNot .u64 v x == 0) = false := beq_eq_false_iff_ne.2 hz
      have z2 : (Go.bits .andNot .u64 v x != 0) = true := by simp [hz]
      clear hR hc hcf a1 a2 a3 w2 hd hv hz
      go_enter Tryd.func46, Tryd.ntmps46
      go_wp2
      repeat (go_quiet ((first | (go_at_call 47; exact Calls.quiet_of_same (contains_calls A c l t false _ HR.out Hc.out)) | (go_at_call 48; exact Calls.quiet_of ((find_dark.calls (l.length + 1) (some ad) c2 cols A c l x _ (Kd.C_drewN HC.out _) HCc.out (Kd.C_drewN HRr.out.1 _) HRr.out.2 HD.out).mono (by rintro e w' ⟨rfl, nd, rfl⟩; exact ⟨rfl, nd, rfl⟩))))); try go_wp2)
      go_ret
      exact ⟨rfl, HJ.out.keep (by repeat (first | exact Below.refl _ _ | apply pw_below_drewN | apply below_drew)), Kp.of_below (by repeat (first | exact Below.refl _ _ | apply pw_below_drewN | apply below_drew)), by repeat (first | exact Below.refl _ _ | apply pw_below_drewN | apply below_drew)⟩
end Go.Proofs.YtglajokjiphafaaDoor.P

namespace Go.Proofs.YtglajokjiphafaaDoor.P
open Go.RowKit Go.Proofs.YtglajokjiphafaaDoorW.PrintWords Go.Proofs.YtglajokjiphafaaDoorW.PrintLast Go.Proofs.YtglajokjiphafaaDoorW.PrintMore
attribute [local go_sem] max2_int min2_int max_two min_two max_three min_three max_four min_four   -- for this text's walks alone
set_option linter.unusedVariables false
set_option linter.unusedSimpArgs false

/-! ### find_few: function 43 -/
def find_few.f (a0 : Int) : Option (Bool) := if a0 ≥ 0 then (some (decide (a0 ≤ 3))) else (some false)
set_option maxHeartbeats 8000000 in
set_option maxRecDepth 100000 in
theorem find_few.calls (a0 : Int) (r : Bool) (w : World) (h : find_few.f a0 = some r) :
    Calls Tryd.prog 43 #[.int .i64 a0] w fun e w' => e = .returned (.bool r) ∧ Drawn0 w w' := by
  have H : (if a0 ≥ 0 then (some (decide (a0 ≤ 3))) else (some false)) = some r := h
  clear h
  by_cases c2 : a0 ≥ 0
  · rw [if_pos c2] at H
    have c2b0 : decide (0 ≤ a0) = true := decide_eq_true c2
    clear c2
    obtain rfl := Option.some.inj H
    go_enter Tryd.func43, Tryd.ntmps43
    go_wp2
    go_ret
    exact ⟨by first | rfl | (simp; done) | (simp [*]; done), by repeat (first | exact Drawn0.refl _ | apply Drawn0.step)⟩
  · rw [if_neg c2] at H
    have c2b0 : decide (0 ≤ a0) = false := decide_eq_false c2
    clear c2
    obtain rfl := Option.some.inj H
    go_enter Tryd.func43, Tryd.ntmps43
    go_wp2
    go_ret
    exact ⟨by first | rfl | (simp; done) | (simp [*]; done), by repeat (first | exact Drawn0.refl _ | apply Drawn0.step)⟩

/-- THE ONE PURE STATEMENT of find_few: yours. -/
def find_few.Pure : Prop := ∀ (a0 : Int), (Lit.int .i64 a0).wf = true → find_few.f a0 = some true
theorem find_few.walk (P : find_few.Pure) (a0 : Int) (w : World) (w0 : (Lit.int .i64 a0).wf = true) :
    Calls Tryd.prog 43 #[.int .i64 a0] w fun e w' => e = .returned (.bool true) ∧ Below w.heap.size w w' := by
  have h := P a0 w0
  refine (find_few.calls a0 true w h).mono ?_
  rintro e w' ⟨rfl, hd⟩
  exact ⟨rfl, hd.below⟩

end Go.Proofs.YtglajokjiphafaaDoor.P

set_option linter.unusedSimpArgs false
set_option linter.unusedVariables false
namespace Go.Proofs.YtglajokjiphafaaDoor.P
open Go.Lib Go.RowKit Go.Proofs.YtglajokjiphafaaDoorW.PrintWords Go.Proofs.YtglajokjiphafaaDoorW.PrintLast Go.Proofs.YtglajokjiphafaaDoorW.PrintMore Go.Proofs.YtglajokjiphafaaDoor.Kit
attribute [local go_sem] max2_int min2_int max_two min_two max_three min_three max_four min_four

theorem reps_nums1 {k : IntKind} {xs : List Int} {cs : List Value} (h : Reps (fun (x : Int) cs => cs = [Value.int k x]) 1 xs cs) : cs = nums k xs := by
  obtain ⟨hl, he⟩ := h
  apply List.ext_getElem?
  intro j
  by_cases hj : j < xs.length
  · have h1 := he j xs[j] (List.getElem?_eq_getElem hj)
    rw [Nat.mul_one] at h1
    have h2 : cs[j]? = ((cs.drop j).take 1)[0]? := by simp
    rw [h2, h1]
    simp [nums, List.getElem?_eq_getElem hj]
  · rw [List.getElem?_eq_none (by omega), List.getElem?_eq_none (by rw [nums_length]; omega)]
theorem R_int_own1 {k : IntKind} {e base : Nat} {ok : Nat → Prop} {w : World} {v : Value} {xs : List Int} (h : (Kd.int k).R e w base ok v xs) : w.ownsRow base e 1 v xs.length (nums k xs) := by
  obtain ⟨h0, inner, ho, hr⟩ := h
  have : inner = nums k xs := reps_nums1 hr
  subst this
  exact ho
theorem WordsAt.of_R {base : Nat} {ok : Nat → Prop} {w : World} {v : Value} {xs : List Int} (h : (Kd.int .u64).R 70 w base ok v xs) : ∃ A c, v = .slice A xs.length c ∧ WordsAt w A c xs := by
  have ho := R_int_own1 h
  rcases ho.2 with ⟨rfl, e0⟩ | ⟨g, cap, cur, rfl, h2, h3⟩
  · refine ⟨none, 0, by rw [e0], ho.1, .inl ⟨by rw [e0], e0⟩⟩
  · exact ⟨_, cap, rfl, ho.1, .inr ⟨g, cap, cur, rfl, Nat.zero_le _, h3⟩⟩
theorem RowB.R {B : Nat} {w : World} {A : Option Addr} {c : Nat} {l : List Int} (h : RowB B w A c l) : (Kd.int .i64).R 3 w B (fun _ => True) (.slice A l.length c) l := R_int_mk0 (fun _ _ => trivial) h
/-- The box of the families. -/
def BoxC (Bc : Nat) (cols : List Int) (W : World) : Prop := ∃ A c, W.heap[Bc]? = some (.cells #[.slice A cols.length c] 65 (0, 0)) ∧ WordsAt W A c cols
theorem BoxC.kp {Bc : Nat} {cols : List Int} {W W' : World} (h : BoxC Bc cols W) (k : Kp W W') : BoxC Bc cols W' := by
  obtain ⟨A, c, h1, h2⟩ := h
  exact ⟨A, c, k.blk h1 (by decide) (by decide), h2.kp k⟩
/-- The box of a number. -/
def BoxN (Bt : Nat) (t : Nat) (W : World) : Prop := W.heap[Bt]? = some (.cells #[.int .i64 (t : Int)] 3 (0, 0))
theorem BoxN.kp {Bt t : Nat} {W W' : World} (h : BoxN Bt t W) (k : Kp W W') : BoxN Bt t W' := k.blk h (by decide) (by decide)
theorem hid_visits (d : List (List Int)) (n t many B Bt Bc Bf : Nat) (hd : d.length ≤ 60) (ht : t < n) (hm : many ≤ 100) (hle : B ≤ Bf) :
    Visits (fun st l => some (hidS d (t : Int) st l)) n many (HidAt B (colsOf n d) (t : Int) Bt Bc Bf) B 46 #[.pointer (some ⟨Bt, 0, none⟩), .pointer (some ⟨Bc, 0, none⟩), .pointer (some ⟨Bf, 0, none⟩)] where
  eg := enters_of Tryd.func46 (by kernel_rfl) rfl
  le := fun st W h => by
    obtain ⟨A, c, h1, _⟩ := h.f
    have := (Array.getElem?_eq_some_iff.1 h1).1
    omega
  keep := fun st W W' h hb => h.keep hb
  visit := fun st st' b l A c W0 W hs hl hx hJ hB hR =>
    hid_visit (colsOf n d) (t : Int) ⟨by omega, by rw [colsOf_length]; omega⟩ B Bt Bc Bf hle st st' b l A c W (by rw [hidStep_eq n d hd t ht st l hx (by omega)]; exact hs) (by omega) (hJ.keep hB) hR.at
set_option maxHeartbeats 4000000
set_option maxRecDepth 100000
/-- One call of subsets, with all boxes laid. -/
theorem hid_subsets (d : List (List Int)) (n t many B Bt Bc Bf : Nat) (hd : d.length ≤ 60) (ht : t < n) (hn : n ≤ 100) (hm : many ≤ 100) (hle : B ≤ Bf) (W : World)
    (hb : W.heap[Bf]? = some (.cells #[.slice none 0 0] 25 (0, 0))) (hc : BoxC Bc (colsOf n d) W) (ht' : BoxN Bt t W) (r : Option (List Int)) (hr : hidM n d t many = r) :
    Calls Tryd.prog 45 #[.int .i64 (n : Int), .int .i64 (many : Int), .func (.func 46) #[] #[.pointer (some ⟨Bt, 0, none⟩), .pointer (some ⟨Bc, 0, none⟩), .pointer (some ⟨Bf, 0, none⟩)]] W
      fun e w' => e = .returned (.bool r.isSome) ∧ (∃ A c, w'.heap[Bf]? = some (.cells #[.slice A (r.getD []).length c] 25 (0, 0)) ∧ RowB B w' A c (r.getD [])) ∧ Kp W w' ∧ Below B W w' := by
  obtain ⟨A, c, c1, c2⟩ := hc
  have hJ : HidAt B (colsOf n d) (t : Int) Bt Bc Bf [] W := ⟨⟨_, _, ht', by decide, by decide⟩, ⟨A, c, _, _, c1, by decide, c2⟩, ⟨none, 0, hb, rfl, .inl ⟨rfl, rfl⟩⟩⟩
  have hs := subs_hidM d t n many
  rw [hr] at hs
  refine (subsets_calls (hid_visits d n t many B Bt Bc Bf hd ht hm hle) hn hm [] (r.getD []) r.isSome W hs hJ).mono ?_
  rintro e w' ⟨he, h1, h2, h3⟩
  exact ⟨he, h1.f, h2, h3⟩
theorem few_calls (d : Int) (b : Bool) (w : World) (hb : decide (0 ≤ d ∧ d ≤ 3) = b) : Calls Tryd.prog 43 #[.int .i64 d] w fun e w' => e = .returned (.bool b) ∧ Drawn0 w w' := by
  refine find_few.calls d b w ?_
  subst hb
  unfold find_few.f
  by_cases h : d ≥ 0
  · rw [if_pos h]; congr 1; simp; omega
  · rw [if_neg h]; congr 1; simp; omega
def HidPost (n D : Int) (ls : List (List Int)) (w : World) (e : Ending) (w' : World) : Prop :=
  ∃ v0_ : Value, e = .returned (.tuple #[v0_, .int .i64 (hidP n ls D).2]) ∧ Kd.R (Kd.int .i64) 3 w' w.heap.size (fun _ => True) v0_ (hidP n ls D).1 ∧ Below w.heap.size w w'
theorem hid_no (n D : Int) (A1 : Option Addr) (c1 : Nat) (ls : List (List Int)) (w : World) (hr1 : Kd.C (Kd.slice 3 (Kd.int .i64)) w A1 ls.length ls) (h : ofN n ls ≠ 0 ∨ ¬ (0 ≤ D ∧ D ≤ 3)) :
    Calls Tryd.prog 18 #[.int .i64 n, .slice A1 ls.length c1, .int .i64 D] w (HidPost n D ls w) := by
  by_cases h0 : ofN n ls = 0
  · have hD : ¬ (0 ≤ D ∧ D ≤ 3) := by rcases h with h | h; exact absurd h0 h; exact h
    have HP := Aside0.mk (show hidP n ls D = ([], 2) by unfold hidP; rw [if_pos h0, if_neg hD])
    have HF := Aside0.mk (decide_eq_false hD)
    have HO := Aside0.mk (of_ok n A1 c1 ls w hr1 h0)
    clear h h0 hD hr1
    go_enter Tryd.func18, Tryd.ntmps18
    go_wp2_with (first | (go_at_call 42; (with_reducible refine (HO.out).mono ?_); rintro e w1 ⟨g, rfl, hI, hb⟩; have HB := Aside0.mk hb; clear hI hb) | (go_at_call 43; (with_reducible refine (few_calls D false _ HF.out).mono ?_); rintro e w' ⟨rfl, ⟨nd, rfl⟩⟩))
    go_ret2
    exact ⟨_, by rw [HP.out]; rfl, by rw [HP.out]; exact Kd.R_nil _ _ _ _ _, by repeat (first | exact HB.out | apply pw_below_drewN | apply below_drew1)⟩
  · have e0 : (ofN n ls != 0) = true := by simpa using h0
    have e1 : (ofN n ls == 0) = false := by simpa using h0
    have HP := Aside0.mk (show hidP n ls D = ([], ofN n ls) by unfold hidP; rw [if_neg h0])
    have HO := Aside0.mk (of_no n A1 c1 ls _ w hr1 rfl h0)
    clear h h0 hr1
    go_enter Tryd.func18, Tryd.ntmps18
    go_wp2_with (first | (go_at_call 42; (with_reducible refine (HO.out).mono ?_); rintro e w1 ⟨rfl, hb⟩; have HB := Aside0.mk hb; clear hb))
    go_ret2
    exact ⟨_, by rw [HP.out]; rfl, by rw [HP.out]; exact Kd.R_nil _ _ _ _ _, by repeat (first | exact HB.out | apply pw_below_drewN | apply below_drew1)⟩
theorem hid_yes (n : Nat) (D : Nat) (hD : D ≤ 3) (A1 : Option Addr) (c1 : Nat) (ls : List (List Int)) (w : World) (hr1 : Kd.C (Kd.slice 3 (Kd.int .i64)) w A1 ls.length ls) (h0 : ofN (n : Int) ls = 0) :
    Calls Tryd.prog 18 #[.int .i64 (n : Int), .slice A1 ls.length c1, .int .i64 (D : Int)] w (HidPost (n : Int) (D : Int) ls w) := by
  have hn := (ofN_ok h0).1
  have hd := (ofN_ok h0).2.1
  have hn100 : n ≤ 100 := by omega
  have HN := Aside0.mk hn100
  have HD3 := Aside0.mk hD
  have HD := Aside0.mk hd
  have HP := Aside0.mk (show hidP (n : Int) ls (D : Int) = (hidL n ls D, 0) by unfold hidP; rw [if_pos h0, if_pos (by omega)]; rfl)
  have HF := Aside0.mk (show decide (0 ≤ (D : Int) ∧ (D : Int) ≤ 3) = true by simp; omega)
  have HO := Aside0.mk (of_ok (n : Int) A1 c1 ls w hr1 h0)
  have HCe := Aside0.mk (cols_ev n hn100 ls hd (ofN_rows h0) (ofN_lens h0)).rounds
  have hDw : wrap64 ((D : Int) + 1) = ((D + 1 : Nat) : Int) := wrap1 (by omega)
  have HDW := Aside0.mk hDw
  obtain ⟨k, hk⟩ := HCe.out
  have HK := Aside0.mk hk
  clear h0 hr1 hn hd hn100 hD hDw HCe hk
  go_enter Tryd.func18, Tryd.ntmps18
  go_wp2_with (first | (go_at_call 42; (with_reducible refine (HO.out).mono ?_); rintro e w1 ⟨g, rfl, hI, hb⟩; have HB := Aside0.mk hb; have HI := Aside0.mk hI; clear hI hb) | (go_at_call 43; (with_reducible refine (few_calls D true _ HF.out).mono ?_); rintro e w' ⟨rfl, ⟨nd, rfl⟩⟩) | (go_at_call 44; (refine (find_design_columns.calls k g (n : Int) ls (colsOf n ls) (n : Int) w _ (HI.out.drewN _) (pw_below_drewN HB.out _) HK.out).mono ?_); rintro e w2 ⟨v0, rfl, hR2, _, hb2, _⟩; obtain ⟨A2, c2, rfl, hW2⟩ := WordsAt.of_R hR2; have HW2 := Aside0.mk hW2; have HB2 := Aside0.mk hb2; clear hW2 hb2 hR2))
  have hbc : BoxC w2.heap.size (colsOf n ls) (w2.alloc (Obj.cells #[Value.slice A2 (colsOf n ls).length c2] 65)) := ⟨A2, c2, heap_alloc_new w2 _, HW2.out.kp (Kp.of_below (below_alloc (Below.refl _ _) _))⟩
  have hb3 : Below w.heap.size w (w2.alloc (Obj.cells #[Value.slice A2 (colsOf n ls).length c2] 65)) := below_alloc HB2.out _
  clear HW2 HB2 HB HI HO HF HK
  generalize w2.alloc (Obj.cells #[Value.slice A2 (colsOf n ls).length c2] 65) = w3 at *
  generalize w2.heap.size = Bc at *
  have HBc := Aside0.mk hbc
  have HB3 := Aside0.mk hb3
  clear hbc hb3
  have HS0 := Aside0.mk (show ((List.range' 0 (n - 0)).findSome? (hidT n ls D)).getD [] = hidL n ls D from rfl)
  go_loopw [31] (fun v31 w' => ∃ t : Nat, v31 = .int .i64 (t : Int) ∧ Aside0 (t ≤ n) ∧ Aside0 (((List.range' t (n - t)).findSome? (hidT n ls D)).getD [] = hidL n ls D) ∧ Aside0 (BoxC Bc (colsOf n ls) w') ∧ Aside0 (Below w.heap.size w w')) (fun v _ => n - (intOf v).toNat)
  case atStart => exact ⟨0, rfl, ⟨Nat.zero_le _⟩, HS0, HBc, HB3⟩
  case round =>
    clear HBc HB3 HS0
    obtain ⟨t, rfl, Ht, HS, HBc, HB⟩ := hrel
    by_cases ct : (t : Int) < (n : Int)
    · have c1b : decide ((t : Int) < (n : Int)) = true := decide_eq_true ct
      have c1c : decide (t < n) = true := decide_eq_true (by omega)
      have hs := HS.out
      rw [show n - t = (n - (t + 1)) + 1 by omega, List.range'_succ, List.findSome?_cons] at hs
      have Hct := Aside0.mk (show t < n by omega)
      have Hs := Aside0.mk hs
      clear ct hs HS
      go_wp2
      have hbt : BoxN wr.heap.size t (wr.alloc (Obj.cells #[Value.int IntKind.i64 (t : Int)] 3)) := heap_alloc_new wr _
      have hbc : BoxC Bc (colsOf n ls) (wr.alloc (Obj.cells #[Value.int IntKind.i64 (t : Int)] 3)) := HBc.out.kp (Kp.of_below (below_alloc (Below.refl _ _) _))
      have hb4 : Below w.heap.size w (wr.alloc (Obj.cells #[Value.int IntKind.i64 (t : Int)] 3)) := below_alloc HB.out _
      clear HB HBc
      generalize wr.alloc (Obj.cells #[Value.int IntKind.i64 (t : Int)] 3) = w4 at *
      generalize wr.heap.size = Bt at *
      have HBt := Aside0.mk hbt
      have HBc := Aside0.mk hbc
      have HB4 := Aside0.mk hb4
      clear hbt hbc hb4
      have HT0 := Aside0.mk (show (((List.range' 0 (D + 1 - 0)).findSome? (hidM n ls t)).or ((List.range' (t + 1) (n - (t + 1))).findSome? (hidT n ls D))).getD [] = hidL n ls D by
        rw [← Hs.out, Nat.sub_zero, show (List.range' 0 (D + 1)).findSome? (hidM n ls t) = hidT n ls D t from rfl]
        cases hidT n ls D t <;> rfl)
      go_loopw [36] (fun v36 w' => ∃ m : Nat, v36 = .int .i64 (m : Int) ∧ Aside0 (m ≤ D + 1) ∧ Aside0 ((((List.range' m (D + 1 - m)).findSome? (hidM n ls t)).or ((List.range' (t + 1) (n - (t + 1))).findSome? (hidT n ls D))).getD [] = hidL n ls D) ∧ Aside0 (BoxN Bt t w') ∧ Aside0 (BoxC Bc (colsOf n ls) w') ∧ Aside0 (Below w.heap.size w w')) (fun v _ => D + 1 - (intOf v).toNat)
      case atStart => exact ⟨0, rfl, ⟨Nat.zero_le _⟩, HT0, HBt, HBc, HB4⟩
      case round =>
        clear HBc HB4 HBt HT0
        obtain ⟨m, rfl, Hm, HT, HBt, HBc, HB⟩ := hrel
        have hdw := HDW.out
        by_cases cm : (m : Int) < ((D + 1 : Nat) : Int)
        · have c2b : decide ((m : Int) < wrap64 ((D : Int) + 1)) = true := by rw [hdw]; exact decide_eq_true cm
          have hm1 := HT.out
          rw [show D + 1 - m = (D + 1 - (m + 1)) + 1 by omega, List.range'_succ, List.findSome?_cons] at hm1
          have Hcm := Aside0.mk (show m < D + 1 by omega)
          have hbf : (wr.alloc (Obj.cells #[Value.slice none 0 0] 25)).heap[wr.heap.size]? = some (Obj.cells #[Value.slice none 0 0] 25 (0, 0)) := heap_alloc_new wr _
          have HSub := fun r (hr : hidM n ls t m = r) => Aside0.mk (hid_subsets ls n t m w.heap.size Bt Bc wr.heap.size HD.out Hct.out HN.out (by have := Hcm.out; have := HD3.out; omega) HB.out.size (wr.alloc (Obj.cells #[Value.slice none 0 0] 25)) hbf (HBc.out.kp (Kp.of_below (below_alloc (Below.refl _ _) _))) (HBt.out.kp (Kp.of_below (below_alloc (Below.refl _ _) _))) r hr)
          have HM1 := Aside0.mk hm1
          clear hbf cm HT hdw hm1
          cases hr : hidM n ls t m with
          | none =>
            have HQ := HSub none hr
            have Hr := Aside0.mk hr
            clear HSub hr
            go_wp2_with (go_at_call 45; (refine (HQ.out).mono ?_); rintro e w5 ⟨rfl, ⟨A5, c5, h5, r5⟩, hk5, hb5⟩; have HK5 := Aside0.mk hk5; have HB5 := Aside0.mk hb5; clear h5 r5 hk5 hb5; dsimp only [Option.isSome])
            go_roundw
            case rel =>
              have hk := (Kp.of_below (below_alloc (Below.refl wr.heap.size wr) (Obj.cells #[Value.slice none 0 0] 25))).trans HK5.out
              exact ⟨m + 1, by rw [wrap1 (by have := Hcm.out; have := HD3.out; omega)], ⟨by have := Hcm.out; omega⟩, ⟨by have := HM1.out; rw [Hr.out] at this; exact this⟩, ⟨HBt.out.kp hk⟩, ⟨HBc.out.kp hk⟩, ⟨(below_alloc HB.out _).trans HB5.out⟩⟩
            case measure => rw [wrap1 (by have := Hcm.out; have := HD3.out; omega)]; have := Hcm.out; simp [intOf]; omega
          | some f =>
            have HQ := HSub (some f) hr
            have Hr := Aside0.mk hr
            clear HSub hr
            go_wp2_with (go_at_call 45; (refine (HQ.out).mono ?_); rintro e w5 ⟨rfl, ⟨A5, c5, h5, r5⟩, hk5, hb5⟩; have HK5 := Aside0.mk hk5; have HB5 := Aside0.mk hb5; have HR5 := Aside0.mk r5; have hc5 : w5.cell? ⟨wr.heap.size, 0, none⟩ = some (Value.slice A5 f.length c5) := (by unfold World.cell?; rw [h5]; rfl); clear h5 r5 hk5 hb5; dsimp only [Option.isSome])
            go_ret2
            have he : f = hidL n ls D := by have := HM1.out; rw [Hr.out] at this; exact this
            exact ⟨_, by rw [HP.out]; rfl, by rw [HP.out, ← he]; exact HR5.out.R, (below_alloc HB.out _).trans HB5.out⟩
        · have c2b : decide ((m : Int) < wrap64 ((D : Int) + 1)) = false := by rw [hdw]; exact decide_eq_false cm
          have hm1 := HT.out
          rw [show D + 1 - m = 0 by omega] at hm1
          have HM1 := Aside0.mk (show ((List.range' (t + 1) (n - (t + 1))).findSome? (hidT n ls D)).getD [] = hidL n ls D from hm1)
          clear cm HT hm1 hdw
          go_wp2
          go_roundw
          case rel => exact ⟨t + 1, by rw [wrap1 (by have := Hct.out; have := HN.out; omega)], ⟨by have := Hct.out; omega⟩, HM1, HBc, HB⟩
          case measure => rw [wrap1 (by have := Hct.out; have := HN.out; omega)]; have := Hct.out; simp [intOf]; omega
    · have c1b : decide ((t : Int) < (n : Int)) = false := decide_eq_false ct
      have c1c : decide (t < n) = false := decide_eq_false (by omega)
      have hs := HS.out
      rw [show n - t = 0 by omega] at hs
      have Hs := Aside0.mk (show [] = hidL n ls D from hs)
      clear ct hs HS
      go_wp2
      go_ret2
      exact ⟨_, by rw [HP.out]; rfl, by rw [HP.out, ← Hs.out]; exact Kd.R_nil _ _ _ _ _, HB.out⟩
/-- find.Hidden, told as the printed contracts are. -/
def find_Hidden.f (a0 : Int) (l1 : List (List Int)) (a2 : Int) : Option (List Int × Int) := some (hidP a0 l1 a2)
theorem find_Hidden.calls (a0 : Int) (A1 : Option Addr) (c1 : Nat) (l1 : List (List Int)) (a2 : Int) (r1 : List Int) (r2 : Int) (w : World) (hr1 : Kd.C (Kd.slice 3 (Kd.int .i64)) w A1 l1.length l1) (hc1 : l1.length ≤ c1) (h : find_Hidden.f a0 l1 a2 = some (r1, r2)) :
    Calls Tryd.prog 18 #[.int .i64 a0, .slice A1 l1.length c1, .int .i64 a2] w fun e w' => ∃ v0_ : Value, e = .returned (.tuple #[v0_, .int .i64 r2]) ∧ Kd.R (Kd.int .i64) 3 w' w.heap.size (fun _ => True) v0_ r1 ∧ Below w.heap.size w w' := by
  have hp : hidP a0 l1 a2 = (r1, r2) := by injection h
  have key : Calls Tryd.prog 18 #[.int .i64 a0, .slice A1 l1.length c1, .int .i64 a2] w (HidPost a0 a2 l1 w) := by
    by_cases h1 : ofN a0 l1 = 0
    · by_cases h2 : 0 ≤ a2 ∧ a2 ≤ 3
      · obtain ⟨n, rfl⟩ := Int.eq_ofNat_of_zero_le (show 0 ≤ a0 by have := (ofN_ok h1).1; omega)
        obtain ⟨D, rfl⟩ := Int.eq_ofNat_of_zero_le h2.1
        exact hid_yes n D (by omega) A1 c1 l1 w hr1 h1
      · exact hid_no a0 a2 A1 c1 l1 w hr1 (.inr h2)
    · exact hid_no a0 a2 A1 c1 l1 w hr1 (.inl h1)
  refine key.mono ?_
  rintro e w' ⟨v, he, h1, h2⟩
  rw [hp] at he h1
  exact ⟨v, he, h1, h2⟩
end Go.Proofs.YtglajokjiphafaaDoor.P

set_option linter.unusedSimpArgs false
set_option linter.unusedVariables false
namespace Go.Proofs.YtglajokjiphafaaDoor.P
open Go.Lib Go.RowKit Go.Proofs.YtglajokjiphafaaDoorW.PrintWords Go.Proofs.YtglajokjiphafaaDoorW.PrintLast Go.Proofs.YtglajokjiphafaaDoorW.PrintMore Go.Proofs.YtglajokjiphafaaDoor.Kit

/-- The library's table lies in its variable. -/
def TabG (w : World) : Prop := TabAt 0 Lib.deBruijn64tab w
theorem TabG.below {w w' : World} (h : TabG w) (hb : Below w.heap.size w w') : TabG w' := fun j hj => pw_cell_below hb (h j hj)
theorem TabG.drewN {w : World} (h : TabG w) (n : Nat) : TabG (w.drewN n) := h
theorem TabG.block {w : World} (h : TabG w) : ∃ c e f, w.heap[0]? = some (.cells c e f) := by
  have h0 := h 0 (by decide)
  unfold World.cell? at h0
  split at h0
  · rename_i heq; exact ⟨_, _, _, heq⟩
  · cases h0
theorem TabG.kept {w w' : World} {S : Nat → Prop} (h : TabG w) (hk : Kept w w' S) (hs : ∀ c e f, w.heap[0]? = some (.cells c e f) → ¬ S 0) : TabG w' := by
  obtain ⟨c, e, f, hb⟩ := h.block
  exact fun j hj => cell_kept (h j hj) hk (hs c e f hb)
set_option maxHeartbeats 1000000
theorem tz_core (x k idx : Nat) (w : World) (hx0 : ((x : Int) == 0) = false)
    (key : IntKind.u64.wrap (bits BinOp.and IntKind.u64 (x : Int) (IntKind.u64.wrap (-(x : Int))) * 285870213051353865) / 288230376151711744 = (idx : Int))
    (hi : idx < 64) (hk : k < 64) (hcell : w.cell? ⟨0, idx, none⟩ = some (.int .u8 k)) :
    Calls Tryd.prog 96 #[.int .u64 x] w fun e w' => e = .returned (.int .i64 k) ∧ w' = w := by
  go_enter Tryd.func96, Tryd.ntmps96
  go_wp2_with (simp only [key])
  go_ret
  exact ⟨rfl, rfl⟩
theorem tz_calls (x : Nat) (h0 : 0 < x) (hx : x < 18446744073709551616) (w : World) (hT : TabG w) :
    Calls Tryd.prog 96 #[.int .u64 x] w fun e w' => e = .returned (.int .i64 (Lib.ctz 64 x)) ∧ w' = w := by
  have hx0 : x ≠ 0 := by omega
  obtain ⟨hlow, hk⟩ := Lib.lowest_bit 64 x hx0 (by simpa using hx)
  obtain ⟨hi, htab⟩ := Lib.deBruijn64_at _ hk
  have hcell := hT _ hi
  rw [htab] at hcell
  exact tz_core x _ _ w (by simp; omega) (tz64_key x _ hx hx0 (by simpa using hlow)) hi hk hcell
end Go.Proofs.YtglajokjiphafaaDoor.P

set_option linter.unusedSimpArgs false
set_option linter.unusedVariables false
namespace Go.Proofs.YtglajokjiphafaaDoor.P
open Go.Lib Go.RowKit Go.Proofs.YtglajokjiphafaaDoorW.PrintWords Go.Proofs.YtglajokjiphafaaDoorW.PrintLast Go.Proofs.YtglajokjiphafaaDoorW.PrintMore Go.Proofs.YtglajokjiphafaaDoor.Kit

/-- The numbers of a set, ascending. -/
def bitsL (f : Nat) : List Nat := (List.range 64).filter fun s => f.testBit s
def sumOf (p : Nat → Bool) : List Nat → Nat
  | [] => 0
  | s :: l => (if p s = true then 2 ^ s else 0) ||| sumOf p l
theorem testBit_sumOf (p : Nat → Bool) (i : Nat) : ∀ l, (sumOf p l).testBit i = (l.contains i && p i)
  | [] => by simp [sumOf]
  | s :: l => by
    rw [sumOf, Nat.testBit_or, testBit_sumOf p i l, List.contains_cons]
    by_cases e : i = s
    · subst e
      cases h : p i <;> simp [Nat.testBit_two_pow]
    · have : (if p s = true then 2 ^ s else 0).testBit i = false := by
        split
        · rw [Nat.testBit_two_pow]; simp; omega
        · simp
      have hb : (i == s) = false := by simp [e]
      rw [this, hb, Bool.false_or, Bool.false_or]
/-- Those of a set that have a number in common with t. -/
def hitN (t f : Nat) : Nat := sumOf (fun s => f.testBit s && (s &&& t != 0)) (List.range 64)
theorem lt64_testBit {f i : Nat} (hf : f < 18446744073709551616) (h : f.testBit i = true) : i < 64 := by
  refine Nat.lt_of_not_le fun hi => ?_
  have : f.testBit i = false := Nat.testBit_lt_two_pow (Nat.lt_of_lt_of_le (show f < 2 ^ 64 by simpa using hf) (Nat.pow_le_pow_right (by decide) hi))
  rw [this] at h; cases h
theorem testBit_hitN (t f i : Nat) (hf : f < 18446744073709551616) : (hitN t f).testBit i = (f.testBit i && (i &&& t != 0)) := by
  rw [hitN, testBit_sumOf]
  cases h : f.testBit i with
  | false => simp
  | true => have := lt64_testBit hf h; simp [this]
theorem sumOf_lt (p : Nat → Bool) : ∀ l : List Nat, (∀ s ∈ l, s < 64) → sumOf p l < 18446744073709551616
  | [], _ => by simp [sumOf]
  | s :: l, h => by
    have h1 := sumOf_lt p l (fun x hx => h x (List.mem_cons_of_mem _ hx))
    have h2 : s < 64 := h s (List.mem_cons_self ..)
    have h3 : 2 ^ s < 2 ^ 64 := Nat.pow_lt_pow_right (by decide) h2
    have := Nat.or_lt_two_pow (n := 64) (x := if p s = true then 2 ^ s else 0) (y := sumOf p l) (by split; exact h3; exact Nat.two_pow_pos 64) (by simpa using h1)
    simpa [sumOf] using this
theorem hitN_lt (t f : Nat) : hitN t f < 18446744073709551616 := sumOf_lt _ _ (fun s hs => by simpa using hs)
theorem andn_lt {x : Nat} (y : Nat) (hx : x < 18446744073709551616) : andn x y < 18446744073709551616 := by
  have := Nat.xor_lt_two_pow (n := 64) (x := x) (y := x &&& y) (by simpa using hx) (by rw [Nat.and_comm]; exact Nat.and_lt_two_pow _ (by simpa using hx))
  simpa [andn] using this
theorem bitsL_hit (t f : Nat) (hf : f < 18446744073709551616) : bitsL (hitN t f) = (bitsL f).filter fun s => s &&& t != 0 := by
  unfold bitsL
  rw [List.filter_filter]
  refine List.filter_congr fun s _ => ?_
  rw [testBit_hitN t f s hf, Bool.and_comm]
theorem bitsL_miss (t f : Nat) (hf : f < 18446744073709551616) : bitsL (andn f (hitN t f)) = (bitsL f).filter fun s => s &&& t == 0 := by
  unfold bitsL
  rw [List.filter_filter]
  refine List.filter_congr fun s _ => ?_
  rw [testBit_andn, testBit_hitN t f s hf]
  cases f.testBit s <;> simp [bne]
theorem bitsL_zero {f : Nat} (hf : f < 18446744073709551616) : bitsL f = [] ↔ f = 0 := by
  constructor
  · intro h
    refine Nat.eq_of_testBit_eq fun i => ?_
    rw [Nat.zero_testBit]
    cases hi : f.testBit i with
    | false => rfl
    | true =>
      have : i ∈ bitsL f := List.mem_filter.2 ⟨List.mem_range.2 (lt64_testBit hf hi), hi⟩
      rw [h] at this; cases this
  · rintro rfl; simp [bitsL]
/-- The lowest number of a set. -/
theorem ctz_spec (x : Nat) (h0 : 0 < x) (hx : x < 18446744073709551616) :
    Lib.ctz 64 x < 64 ∧ x.testBit (Lib.ctz 64 x) = true ∧ ∀ i, (x &&& (x - 1)).testBit i = (x.testBit i && decide (i ≠ Lib.ctz 64 x)) := by
  have he : Lib.ctz 64 x = Lib.ctzFrom 64 x := by unfold Lib.ctz; rw [if_neg (by omega)]
  obtain ⟨m, hm, hk⟩ := Lib.ctzFrom_spec 64 x h0 (by simpa using hx)
  rw [he]
  generalize Lib.ctzFrom 64 x = s at hm hk
  have hp : 0 < 2 ^ s := Nat.two_pow_pos s
  have e1 : x = 2 ^ s * (2 * m + 1) + 0 := by omega
  have e2 : x - 1 = 2 ^ s * (2 * m) + (2 ^ s - 1) := by
    rw [hm, Nat.mul_add]; omega
  have t1 : ∀ i, x.testBit i = if i < s then false else (2 * m + 1).testBit (i - s) := by
    intro i
    rw [e1, Nat.testBit_two_pow_mul_add (2 * m + 1) hp i, Nat.zero_testBit]
  have t2 : ∀ i, (x - 1).testBit i = if i < s then (2 ^ s - 1).testBit i else (2 * m).testBit (i - s) := by
    intro i
    rw [e2, Nat.testBit_two_pow_mul_add (2 * m) (by omega) i]
  refine ⟨hk, ?_, fun i => ?_⟩
  · rw [t1, if_neg (by omega), Nat.sub_self, Nat.testBit_zero]; simp
  · rw [Nat.testBit_and, t1, t2]
    by_cases h1 : i < s
    · rw [if_pos h1, if_pos h1]; simp
    · rw [if_neg h1, if_neg h1]
      by_cases h2 : i = s
      · subst h2
        rw [Nat.sub_self, Nat.testBit_zero, Nat.testBit_zero]
        have : (2 * m) % 2 = 0 := by omega
        simp
      · obtain ⟨j, hj⟩ : ∃ j, i - s = j + 1 := ⟨i - s - 1, by omega⟩
        rw [hj, Nat.testBit_succ, Nat.testBit_succ, show (2 * m + 1) / 2 = m by omega, show 2 * m / 2 = m by omega]
        cases m.testBit j <;> simp [h2]
/-- One round of parted. -/
theorem hit_round (t x : Nat) (h0 : 0 < x) (hx : x < 18446744073709551616) :
    hitN t x = (if Lib.ctz 64 x &&& t ≠ 0 then 2 ^ Lib.ctz 64 x else 0) ||| hitN t (x &&& (x - 1)) := by
  obtain ⟨hs, hb, hr⟩ := ctz_spec x h0 hx
  have hx2 : x &&& (x - 1) < 18446744073709551616 := by
    have := Nat.and_lt_two_pow (n := 64) x (y := x - 1) (by simp; omega)
    simpa using this
  refine Nat.eq_of_testBit_eq fun i => ?_
  rw [Nat.testBit_or, testBit_hitN t x i hx, testBit_hitN t _ i hx2, hr]
  generalize Lib.ctz 64 x = s at hs hb
  by_cases e : i = s
  · subst e
    rw [hb]
    by_cases h : i &&& t = 0
    · simp [h]
    · simp [h, Nat.testBit_two_pow]
  · have : (if s &&& t ≠ 0 then 2 ^ s else 0).testBit i = false := by
      split
      · rw [Nat.testBit_two_pow]; simp; omega
      · simp
    rw [this]
    simp [e]
theorem and_pred_lt {x : Nat} (h0 : 0 < x) : x &&& (x - 1) < x := by
  have := Nat.and_le_right (n := x) (m := x - 1)
  omega
end Go.Proofs.YtglajokjiphafaaDoor.P

namespace Go.Proofs.YtglajokjiphafaaDoor.P
open Go.RowKit Go.Proofs.YtglajokjiphafaaDoorW.PrintWords Go.Proofs.YtglajokjiphafaaDoorW.PrintLast Go.Proofs.YtglajokjiphafaaDoorW.PrintMore
attribute [local go_sem] max2_int min2_int max_two min_two max_three min_three max_four min_four   -- for this text's walks alone
set_option linter.unusedVariables false
set_option linter.unusedSimpArgs false

/-! ### find_sets: function 81 -/
def find_sets.f (a0 : Int) (a1 : Int) : Option (Int) := if 0 ≤ a1 then (some (Go.bits .or .u64 a0 (shl .u64 1 a1))) else (none)
set_option maxHeartbeats 8000000 in
set_option maxRecDepth 100000 in
theorem find_sets.calls (a0 : Int) (a1 : Int) (r : Int) (w : World) (h : find_sets.f a0 a1 = some r) :
    Calls Tryd.prog 81 #[.int .u64 a0, .int .i64 a1] w fun e w' => e = .returned (.int .u64 r) ∧ Drawn0 w w' := by
  have H : (if 0 ≤ a1 then (some (Go.bits .or .u64 a0 (shl .u64 1 a1))) else (none)) = some r := h
  clear h
  by_cases c3 : 0 ≤ a1
  · rw [if_pos c3] at H
    have c3b0 := eq_true c3
    have c3b1 : decide (0 ≤ a1) = true := decide_eq_true c3
    clear c3
    obtain ⟨ji4, hji4⟩ : ∃ j_ : Int, (shl .u64 1 a1) = j_ := ⟨_, rfl⟩
    replace H : (some (Go.bits .or .u64 a0 (ji4))) = some r := by first | (rw [hji4] at H; exact H) | (simp only [hji4] at H ⊢; exact H)
    have hji4_ : (IntKind.u64.wrap (1 * 2 ^ min a1.toNat 64)) = ji4 := hji4
    have hji4z : a1 ≤ 64 → (IntKind.u64.wrap (1 * 2 ^ a1.toNat)) = ji4 := shl_small hji4
    have hji4u : (IntKind.u64.wrap (2 ^ min a1.toNat 64)) = ji4 := by have h_ := hji4_; rw [Int.one_mul] at h_; exact h_
    have hji4v : a1 ≤ 64 → (IntKind.u64.wrap (2 ^ a1.toNat)) = ji4 := fun hle_ => by have h_ := hji4z hle_; rw [Int.one_mul] at h_; exact h_
    obtain rfl := Option.some.inj H
    go_enter Tryd.func81, Tryd.ntmps81
    go_wp2
    go_ret
    exact ⟨by first | rfl | (simp; done) | (simp only [← hji4] <;> (first | rfl | simp)) | (simp [*]; done), by repeat (first | exact Drawn0.refl _ | apply Drawn0.step)⟩
  · rw [if_neg c3] at H
    exact absurd H (by simp)

end Go.Proofs.YtglajokjiphafaaDoor.P

namespace Go.Proofs.YtglajokjiphafaaDoor.Kit
open Go.Lib
set_option linter.unusedVariables false

def cat8 (b0 b1 b2 b3 b4 b5 b6 b7 : Nat) : Nat := b0 + 256 * (b1 + 256 * (b2 + 256 * (b3 + 256 * (b4 + 256 * (b5 + 256 * (b6 + 256 * b7))))))
theorem and_cat (a m A M : Nat) (ha : a < 256) (hm : m < 256) : (a + 256 * A) &&& (m + 256 * M) = (a &&& m) + 256 * (A &&& M) := by
  have h1 : ((a + 256 * A) &&& (m + 256 * M)) % 2 ^ 8 = (a &&& m) := by
    rw [Nat.and_mod_two_pow, show (a + 256 * A) % 2 ^ 8 = a from by simp only [Nat.reducePow]; omega, show (m + 256 * M) % 2 ^ 8 = m from by simp only [Nat.reducePow]; omega]
  have h2 : ((a + 256 * A) &&& (m + 256 * M)) / 2 ^ 8 = (A &&& M) := by
    rw [Nat.and_div_two_pow, show (a + 256 * A) / 2 ^ 8 = A from by simp only [Nat.reducePow]; omega, show (m + 256 * M) / 2 ^ 8 = M from by simp only [Nat.reducePow]; omega]
  have h3 := Nat.div_add_mod ((a + 256 * A) &&& (m + 256 * M)) (2 ^ 8)
  rw [h1, h2] at h3
  simp only [Nat.reducePow] at h3
  omega
theorem and_cat8 (a0 a1 a2 a3 a4 a5 a6 a7 m0 m1 m2 m3 m4 m5 m6 m7 : Nat) (h0 : a0 < 256) (h1 : a1 < 256) (h2 : a2 < 256) (h3 : a3 < 256) (h4 : a4 < 256) (h5 : a5 < 256) (h6 : a6 < 256)
    (k0 : m0 < 256) (k1 : m1 < 256) (k2 : m2 < 256) (k3 : m3 < 256) (k4 : m4 < 256) (k5 : m5 < 256) (k6 : m6 < 256) :
    cat8 a0 a1 a2 a3 a4 a5 a6 a7 &&& cat8 m0 m1 m2 m3 m4 m5 m6 m7 = cat8 (a0 &&& m0) (a1 &&& m1) (a2 &&& m2) (a3 &&& m3) (a4 &&& m4) (a5 &&& m5) (a6 &&& m6) (a7 &&& m7) := by
  unfold cat8
  rw [and_cat _ _ _ _ h0 k0, and_cat _ _ _ _ h1 k1, and_cat _ _ _ _ h2 k2, and_cat _ _ _ _ h3 k3, and_cat _ _ _ _ h4 k4, and_cat _ _ _ _ h5 k5, and_cat _ _ _ _ h6 k6]
theorem cat8_of (x : Nat) (hx : x < 18446744073709551616) : ∃ b0 b1 b2 b3 b4 b5 b6 b7, b0 < 256 ∧ b1 < 256 ∧ b2 < 256 ∧ b3 < 256 ∧ b4 < 256 ∧ b5 < 256 ∧ b6 < 256 ∧ b7 < 256 ∧ x = cat8 b0 b1 b2 b3 b4 b5 b6 b7 :=
  ⟨x % 256, x / 256 % 256, x / 65536 % 256, x / 16777216 % 256, x / 4294967296 % 256, x / 1099511627776 % 256, x / 281474976710656 % 256, x / 72057594037927936, by omega, by omega, by omega, by omega, by omega, by omega, by omega, by omega, by unfold cat8; omega⟩
theorem cat8_lt (b0 b1 b2 b3 b4 b5 b6 b7 : Nat) (h0 : b0 < 256) (h1 : b1 < 256) (h2 : b2 < 256) (h3 : b3 < 256) (h4 : b4 < 256) (h5 : b5 < 256) (h6 : b6 < 256) (h7 : b7 < 256) : cat8 b0 b1 b2 b3 b4 b5 b6 b7 < 18446744073709551616 := by
  unfold cat8
  omega
theorem cat8_lt68 (b0 b1 b2 b3 b4 b5 b6 b7 : Nat) (h0 : b0 ≤ 68) (h1 : b1 ≤ 68) (h2 : b2 ≤ 68) (h3 : b3 ≤ 68) (h4 : b4 ≤ 68) (h5 : b5 ≤ 68) (h6 : b6 ≤ 68) (h7 : b7 ≤ 68) : cat8 b0 b1 b2 b3 b4 b5 b6 b7 < 9223372036854775808 := by
  unfold cat8
  omega
theorem lt63a {y : Nat} (h : y < 9223372036854775808) : y < 18446744073709551616 := by omega
theorem lt63b {y : Nat} (h : y < 9223372036854775808) : y / 16 + y < 18446744073709551616 := by omega
def g1 (b : Nat) : Nat := (b / 2 &&& 85) + (b &&& 85)
def g2 (b : Nat) : Nat := (b / 4 &&& 51) + (b &&& 51)
def g3 (b : Nat) : Nat := (b / 16 + b) % 16
theorem g_fin : ∀ b : Fin 256, g3 (g2 (g1 b.val)) = popAux 8 b.val ∧ g1 b.val < 256 ∧ g2 (g1 b.val) ≤ 68 ∧ g2 (g1 b.val) % 16 ≤ 4 ∧ popAux 8 b.val ≤ 8 := by decide +kernel
theorem m1_fin : ∀ b : Fin 256, (b.val / 2 + 128 * 0 &&& 85) = (b.val / 2 &&& 85) ∧ (b.val / 2 + 128 * 1 &&& 85) = (b.val / 2 &&& 85) := by decide +kernel
theorem m2_fin : ∀ b : Fin 256, (b.val / 4 + 64 * 0 &&& 51) = (b.val / 4 &&& 51) ∧ (b.val / 4 + 64 * 1 &&& 51) = (b.val / 4 &&& 51) ∧ (b.val / 4 + 64 * 2 &&& 51) = (b.val / 4 &&& 51) ∧ (b.val / 4 + 64 * 3 &&& 51) = (b.val / 4 &&& 51) := by decide +kernel
theorem m1 (b c : Nat) (h : b < 256) : (b / 2 + 128 * (c % 2) &&& 85) = (b / 2 &&& 85) := by
  have hc : c % 2 = 0 ∨ c % 2 = 1 := by omega
  rcases hc with hc | hc <;> rw [hc]
  · exact (m1_fin ⟨b, h⟩).1
  · exact (m1_fin ⟨b, h⟩).2
theorem m2 (b c : Nat) (h : b < 256) : (b / 4 + 64 * (c % 4) &&& 51) = (b / 4 &&& 51) := by
  have hc : c % 4 = 0 ∨ c % 4 = 1 ∨ c % 4 = 2 ∨ c % 4 = 3 := by omega
  rcases hc with hc | hc | hc | hc <;> rw [hc]
  · exact (m2_fin ⟨b, h⟩).1
  · exact (m2_fin ⟨b, h⟩).2.1
  · exact (m2_fin ⟨b, h⟩).2.2.1
  · exact (m2_fin ⟨b, h⟩).2.2.2
theorem and_le255 (a m : Nat) : (a &&& m) ≤ m := Nat.and_le_right
theorem stage1 (b0 b1 b2 b3 b4 b5 b6 b7 : Nat) (h0 : b0 < 256) (h1 : b1 < 256) (h2 : b2 < 256) (h3 : b3 < 256) (h4 : b4 < 256) (h5 : b5 < 256) (h6 : b6 < 256) (h7 : b7 < 256) :
    (cat8 b0 b1 b2 b3 b4 b5 b6 b7 / 2 &&& 6148914691236517205) + (cat8 b0 b1 b2 b3 b4 b5 b6 b7 &&& 6148914691236517205) = cat8 (g1 b0) (g1 b1) (g1 b2) (g1 b3) (g1 b4) (g1 b5) (g1 b6) (g1 b7) := by
  have hM : (6148914691236517205 : Nat) = cat8 85 85 85 85 85 85 85 85 := by decide
  have hd : cat8 b0 b1 b2 b3 b4 b5 b6 b7 / 2 = cat8 (b0 / 2 + 128 * (b1 % 2)) (b1 / 2 + 128 * (b2 % 2)) (b2 / 2 + 128 * (b3 % 2)) (b3 / 2 + 128 * (b4 % 2)) (b4 / 2 + 128 * (b5 % 2)) (b5 / 2 + 128 * (b6 % 2)) (b6 / 2 + 128 * (b7 % 2)) (b7 / 2) := by
    unfold cat8
    omega
  rw [hd, hM, and_cat8 _ _ _ _ _ _ _ _ _ _ _ _ _ _ _ _ (by omega) (by omega) (by omega) (by omega) (by omega) (by omega) (by omega) (by omega) (by omega) (by omega) (by omega) (by omega) (by omega) (by omega),
    and_cat8 _ _ _ _ _ _ _ _ _ _ _ _ _ _ _ _ h0 h1 h2 h3 h4 h5 h6 (by omega) (by omega) (by omega) (by omega) (by omega) (by omega) (by omega),
    m1 b0 b1 h0, m1 b1 b2 h1, m1 b2 b3 h2, m1 b3 b4 h3, m1 b4 b5 h4, m1 b5 b6 h5, m1 b6 b7 h6]
  unfold cat8 g1
  omega
theorem stage2 (b0 b1 b2 b3 b4 b5 b6 b7 : Nat) (h0 : b0 < 256) (h1 : b1 < 256) (h2 : b2 < 256) (h3 : b3 < 256) (h4 : b4 < 256) (h5 : b5 < 256) (h6 : b6 < 256) (h7 : b7 < 256) :
    (cat8 b0 b1 b2 b3 b4 b5 b6 b7 / 4 &&& 3689348814741910323) + (cat8 b0 b1 b2 b3 b4 b5 b6 b7 &&& 3689348814741910323) = cat8 (g2 b0) (g2 b1) (g2 b2) (g2 b3) (g2 b4) (g2 b5) (g2 b6) (g2 b7) := by
  have hM : (3689348814741910323 : Nat) = cat8 51 51 51 51 51 51 51 51 := by decide
  have hd : cat8 b0 b1 b2 b3 b4 b5 b6 b7 / 4 = cat8 (b0 / 4 + 64 * (b1 % 4)) (b1 / 4 + 64 * (b2 % 4)) (b2 / 4 + 64 * (b3 % 4)) (b3 / 4 + 64 * (b4 % 4)) (b4 / 4 + 64 * (b5 % 4)) (b5 / 4 + 64 * (b6 % 4)) (b6 / 4 + 64 * (b7 % 4)) (b7 / 4) := by
    unfold cat8
    omega
  rw [hd, hM, and_cat8 _ _ _ _ _ _ _ _ _ _ _ _ _ _ _ _ (by omega) (by omega) (by omega) (by omega) (by omega) (by omega) (by omega) (by omega) (by omega) (by omega) (by omega) (by omega) (by omega) (by omega),
    and_cat8 _ _ _ _ _ _ _ _ _ _ _ _ _ _ _ _ h0 h1 h2 h3 h4 h5 h6 (by omega) (by omega) (by omega) (by omega) (by omega) (by omega) (by omega),
    m2 b0 b1 h0, m2 b1 b2 h1, m2 b2 b3 h2, m2 b3 b4 h3, m2 b4 b5 h4, m2 b5 b6 h5, m2 b6 b7 h6]
  unfold cat8 g2
  omega
theorem and15 (x : Nat) : x &&& 15 = x % 16 := Nat.and_two_pow_sub_one_eq_mod x 4
theorem stage3 (b0 b1 b2 b3 b4 b5 b6 b7 : Nat) (h0 : b0 ≤ 68) (h1 : b1 ≤ 68) (h2 : b2 ≤ 68) (h3 : b3 ≤ 68) (h4 : b4 ≤ 68) (h5 : b5 ≤ 68) (h6 : b6 ≤ 68) (h7 : b7 ≤ 68)
    (k1 : b1 % 16 ≤ 4) (k2 : b2 % 16 ≤ 4) (k3 : b3 % 16 ≤ 4) (k4 : b4 % 16 ≤ 4) (k5 : b5 % 16 ≤ 4) (k6 : b6 % 16 ≤ 4) (k7 : b7 % 16 ≤ 4) :
    (cat8 b0 b1 b2 b3 b4 b5 b6 b7 / 16 + cat8 b0 b1 b2 b3 b4 b5 b6 b7) &&& 1085102592571150095 = cat8 (g3 b0) (g3 b1) (g3 b2) (g3 b3) (g3 b4) (g3 b5) (g3 b6) (g3 b7) := by
  have hM : (1085102592571150095 : Nat) = cat8 15 15 15 15 15 15 15 15 := by decide
  have hd : cat8 b0 b1 b2 b3 b4 b5 b6 b7 / 16 + cat8 b0 b1 b2 b3 b4 b5 b6 b7 = cat8 (b0 / 16 + 16 * (b1 % 16) + b0) (b1 / 16 + 16 * (b2 % 16) + b1) (b2 / 16 + 16 * (b3 % 16) + b2) (b3 / 16 + 16 * (b4 % 16) + b3) (b4 / 16 + 16 * (b5 % 16) + b4) (b5 / 16 + 16 * (b6 % 16) + b5) (b6 / 16 + 16 * (b7 % 16) + b6) (b7 / 16 + b7) := by
    unfold cat8
    omega
  rw [hd, hM, and_cat8 _ _ _ _ _ _ _ _ _ _ _ _ _ _ _ _ (by omega) (by omega) (by omega) (by omega) (by omega) (by omega) (by omega) (by omega) (by omega) (by omega) (by omega) (by omega) (by omega) (by omega)]
  simp only [and15]
  unfold cat8 g3
  omega
theorem popAux_split (k : Nat) : ∀ (j x y : Nat), x < 2 ^ k → popAux (k + j) (x + 2 ^ k * y) = popAux k x + popAux j y := by
  induction k with
  | zero =>
    intro j x y hx
    have : x = 0 := by simp at hx; exact hx
    subst this
    simp [popAux]
  | succ k ih =>
    intro j x y hx
    rw [show k + 1 + j = (k + j) + 1 from by omega]
    simp only [popAux]
    have h1 : (x + 2 ^ (k + 1) * y) % 2 = x % 2 := by rw [Nat.pow_succ, Nat.mul_comm (2 ^ k) 2, Nat.mul_assoc]; omega
    have h2 : (x + 2 ^ (k + 1) * y) / 2 = x / 2 + 2 ^ k * y := by rw [Nat.pow_succ, Nat.mul_comm (2 ^ k) 2, Nat.mul_assoc]; omega
    rw [h1, h2, ih j (x / 2) y (by rw [Nat.pow_succ] at hx; omega)]
    omega
theorem pop_cat8 (b0 b1 b2 b3 b4 b5 b6 b7 : Nat) (h0 : b0 < 256) (h1 : b1 < 256) (h2 : b2 < 256) (h3 : b3 < 256) (h4 : b4 < 256) (h5 : b5 < 256) (h6 : b6 < 256) :
    onesCount (cat8 b0 b1 b2 b3 b4 b5 b6 b7) = popAux 8 b0 + (popAux 8 b1 + (popAux 8 b2 + (popAux 8 b3 + (popAux 8 b4 + (popAux 8 b5 + (popAux 8 b6 + popAux 8 b7)))))) := by
  unfold onesCount cat8
  rw [show (64 : Nat) = 8 + 56 from rfl, show ∀ t : Nat, 256 * t = 2 ^ 8 * t from fun _ => rfl, popAux_split 8 56 _ _ (by simpa using h0),
    show (56 : Nat) = 8 + 48 from rfl, popAux_split 8 48 _ _ (by simpa using h1), show (48 : Nat) = 8 + 40 from rfl, popAux_split 8 40 _ _ (by simpa using h2),
    show (40 : Nat) = 8 + 32 from rfl, popAux_split 8 32 _ _ (by simpa using h3), show (32 : Nat) = 8 + 24 from rfl, popAux_split 8 24 _ _ (by simpa using h4),
    show (24 : Nat) = 8 + 16 from rfl, popAux_split 8 16 _ _ (by simpa using h5), show (16 : Nat) = 8 + 8 from rfl, popAux_split 8 8 _ _ (by simpa using h6)]
theorem stage4 (p0 p1 p2 p3 p4 p5 p6 p7 : Nat) (h0 : p0 ≤ 8) (h1 : p1 ≤ 8) (h2 : p2 ≤ 8) (h3 : p3 ≤ 8) (h4 : p4 ≤ 8) (h5 : p5 ≤ 8) (h6 : p6 ≤ 8) (h7 : p7 ≤ 8) (x y z : Nat)
    (hx : x = cat8 p0 p1 p2 p3 p4 p5 p6 p7 + cat8 p0 p1 p2 p3 p4 p5 p6 p7 / 256) (hy : y = x + x / 65536) (hz : z = y + y / 4294967296) :
    z % 128 = p0 + (p1 + (p2 + (p3 + (p4 + (p5 + (p6 + p7)))))) ∧ x < 18446744073709551616 ∧ y < 18446744073709551616 ∧ z < 18446744073709551616 := by
  have e1 : x = cat8 (p0 + p1) (p1 + p2) (p2 + p3) (p3 + p4) (p4 + p5) (p5 + p6) (p6 + p7) p7 := by rw [hx]; unfold cat8; omega
  have e2 : y = cat8 (p0 + p1 + (p2 + p3)) (p1 + p2 + (p3 + p4)) (p2 + p3 + (p4 + p5)) (p3 + p4 + (p5 + p6)) (p4 + p5 + (p6 + p7)) (p5 + p6 + p7) (p6 + p7) p7 := by rw [hy, e1]; unfold cat8; omega
  have e3 : z = cat8 (p0 + p1 + (p2 + p3) + (p4 + p5 + (p6 + p7))) (p1 + p2 + (p3 + p4) + (p5 + p6 + p7)) (p2 + p3 + (p4 + p5) + (p6 + p7)) (p3 + p4 + (p5 + p6) + p7) (p4 + p5 + (p6 + p7)) (p5 + p6 + p7) (p6 + p7) p7 := by rw [hz, e2]; unfold cat8; omega
  rw [e1, e2, e3]
  unfold cat8
  omega
/-- The library's steps, one under the other. -/
theorem swar_cat (b0 b1 b2 b3 b4 b5 b6 b7 : Nat) (h0 : b0 < 256) (h1 : b1 < 256) (h2 : b2 < 256) (h3 : b3 < 256) (h4 : b4 < 256) (h5 : b5 < 256) (h6 : b6 < 256) (h7 : b7 < 256) (x y1 y2 y3 y4 y5 y6 : Nat)
    (ex : x = cat8 b0 b1 b2 b3 b4 b5 b6 b7)
    (e1 : y1 = (x / 2 &&& 6148914691236517205) + (x &&& 6148914691236517205)) (e2 : y2 = (y1 / 4 &&& 3689348814741910323) + (y1 &&& 3689348814741910323))
    (e3 : y3 = (y2 / 16 + y2) &&& 1085102592571150095) (e4 : y4 = y3 + y3 / 256) (e5 : y5 = y4 + y4 / 65536) (e6 : y6 = y5 + y5 / 4294967296) :
    y6 % 128 = onesCount x ∧ y1 < 18446744073709551616 ∧ y2 < 18446744073709551616 ∧ y2 / 16 + y2 < 18446744073709551616 ∧ y4 < 18446744073709551616 ∧ y5 < 18446744073709551616 ∧ y6 < 18446744073709551616 := by
  obtain ⟨p0, q0, r0, s0, t0⟩ := g_fin ⟨b0, h0⟩
  obtain ⟨p1, q1, r1, s1, t1⟩ := g_fin ⟨b1, h1⟩
  obtain ⟨p2, q2, r2, s2, t2⟩ := g_fin ⟨b2, h2⟩
  obtain ⟨p3, q3, r3, s3, t3⟩ := g_fin ⟨b3, h3⟩
  obtain ⟨p4, q4, r4, s4, t4⟩ := g_fin ⟨b4, h4⟩
  obtain ⟨p5, q5, r5, s5, t5⟩ := g_fin ⟨b5, h5⟩
  obtain ⟨p6, q6, r6, s6, t6⟩ := g_fin ⟨b6, h6⟩
  obtain ⟨p7, q7, r7, s7, t7⟩ := g_fin ⟨b7, h7⟩
  have k1 : y1 = cat8 (g1 b0) (g1 b1) (g1 b2) (g1 b3) (g1 b4) (g1 b5) (g1 b6) (g1 b7) := by rw [e1, ex]; exact stage1 _ _ _ _ _ _ _ _ h0 h1 h2 h3 h4 h5 h6 h7
  have k2 : y2 = cat8 (g2 (g1 b0)) (g2 (g1 b1)) (g2 (g1 b2)) (g2 (g1 b3)) (g2 (g1 b4)) (g2 (g1 b5)) (g2 (g1 b6)) (g2 (g1 b7)) := by rw [e2, k1]; exact stage2 _ _ _ _ _ _ _ _ q0 q1 q2 q3 q4 q5 q6 q7
  have k3 : y3 = cat8 (g3 (g2 (g1 b0))) (g3 (g2 (g1 b1))) (g3 (g2 (g1 b2))) (g3 (g2 (g1 b3))) (g3 (g2 (g1 b4))) (g3 (g2 (g1 b5))) (g3 (g2 (g1 b6))) (g3 (g2 (g1 b7))) := by rw [e3, k2]; exact stage3 _ _ _ _ _ _ _ _ r0 r1 r2 r3 r4 r5 r6 r7 s1 s2 s3 s4 s5 s6 s7
  clear e1 e2 e3
  generalize g1 b0 = c0 at *
  generalize g1 b1 = c1 at *
  generalize g1 b2 = c2 at *
  generalize g1 b3 = c3 at *
  generalize g1 b4 = c4 at *
  generalize g1 b5 = c5 at *
  generalize g1 b6 = c6 at *
  generalize g1 b7 = c7 at *
  rw [p0, p1, p2, p3, p4, p5, p6, p7] at k3
  generalize g2 c0 = d0 at *
  generalize g2 c1 = d1 at *
  generalize g2 c2 = d2 at *
  generalize g2 c3 = d3 at *
  generalize g2 c4 = d4 at *
  generalize g2 c5 = d5 at *
  generalize g2 c6 = d6 at *
  generalize g2 c7 = d7 at *
  clear p0 p1 p2 p3 p4 p5 p6 p7
  have hp := pop_cat8 b0 b1 b2 b3 b4 b5 b6 b7 h0 h1 h2 h3 h4 h5 h6
  rw [← ex] at hp
  rw [hp]
  generalize popAux 8 b0 = u0 at *
  generalize popAux 8 b1 = u1 at *
  generalize popAux 8 b2 = u2 at *
  generalize popAux 8 b3 = u3 at *
  generalize popAux 8 b4 = u4 at *
  generalize popAux 8 b5 = u5 at *
  generalize popAux 8 b6 = u6 at *
  generalize popAux 8 b7 = u7 at *
  obtain ⟨f1, f2, f3, f4⟩ := stage4 u0 u1 u2 u3 u4 u5 u6 u7 t0 t1 t2 t3 t4 t5 t6 t7 y4 y5 y6 (by rw [e4, k3]) e5 e6
  clear e4 e5 e6 k3
  refine ⟨f1, ?_, ?_, ?_, f2, f3, f4⟩
  · rw [k1]; exact cat8_lt _ _ _ _ _ _ _ _ q0 q1 q2 q3 q4 q5 q6 q7
  · have hz := cat8_lt68 d0 d1 d2 d3 d4 d5 d6 d7 r0 r1 r2 r3 r4 r5 r6 r7
    rw [← k2] at hz
    exact lt63a hz
  · have hz := cat8_lt68 d0 d1 d2 d3 d4 d5 d6 d7 r0 r1 r2 r3 r4 r5 r6 r7
    rw [← k2] at hz
    exact lt63b hz
theorem swar (x : Nat) (hx : x < 18446744073709551616) (y1 y2 y3 y4 y5 y6 : Nat)
    (e1 : y1 = (x / 2 &&& 6148914691236517205) + (x &&& 6148914691236517205)) (e2 : y2 = (y1 / 4 &&& 3689348814741910323) + (y1 &&& 3689348814741910323))
    (e3 : y3 = (y2 / 16 + y2) &&& 1085102592571150095) (e4 : y4 = y3 + y3 / 256) (e5 : y5 = y4 + y4 / 65536) (e6 : y6 = y5 + y5 / 4294967296) :
    y6 % 128 = onesCount x ∧ y1 < 18446744073709551616 ∧ y2 < 18446744073709551616 ∧ y2 / 16 + y2 < 18446744073709551616 ∧ y4 < 18446744073709551616 ∧ y5 < 18446744073709551616 ∧ y6 < 18446744073709551616 := by
  obtain ⟨b0, b1, b2, b3, b4, b5, b6, b7, h0, h1, h2, h3, h4, h5, h6, h7, ex⟩ := cat8_of x hx
  exact swar_cat b0 b1 b2 b3 b4 b5 b6 b7 h0 h1 h2 h3 h4 h5 h6 h7 x y1 y2 y3 y4 y5 y6 ex e1 e2 e3 e4 e5 e6

end Go.Proofs.YtglajokjiphafaaDoor.Kit

namespace Go.Proofs.YtglajokjiphafaaDoor.P
open Go.RowKit Go.Proofs.YtglajokjiphafaaDoorW.PrintWords Go.Proofs.YtglajokjiphafaaDoorW.PrintLast Go.Proofs.YtglajokjiphafaaDoorW.PrintMore
open Go.Proofs.YtglajokjiphafaaDoor.Kit

def bits_Len.f (a0 : Int) : Option Int := if 0 ≤ a0 ∧ a0 ≤ 18446744073709551615 then some (Lib.bitLen a0.toNat : Int) else none
theorem bits_Len.calls (a0 : Int) (r : Int) (w : World) (h : bits_Len.f a0 = some r) :
    Calls Tryd.prog 61 #[.int .u64 a0] w fun e w' => e = .returned (.int .i64 r) ∧ Drawn0 w w' := by
  unfold bits_Len.f at h
  split at h
  case isFalse => cases h
  rename_i hb
  injection h with h
  subst h
  refine (Tryd.bits_Len a0 w hb.1 hb.2).mono ?_
  rintro e w' ⟨rfl, rfl⟩
  exact ⟨rfl, Drawn0.refl _⟩

theorem u64w {x : Nat} (h : x < 18446744073709551616) : IntKind.u64.wrap (x : Int) = (x : Int) := by
  simp [IntKind.wrap, IntKind.bits, IntKind.signed]
  omega
theorem andu64 (x y : Nat) (hx : x < 18446744073709551616) (hy : y < 18446744073709551616) : Go.bits .and .u64 (x : Int) (y : Int) = ((x &&& y : Nat) : Int) := by
  have hw : ∀ n : Int, 0 ≤ n → n < 2 ^ 64 → IntKind.u64.wrap n = n := fun n h0 h1 => by
    obtain ⟨m, rfl⟩ := Int.eq_ofNat_of_zero_le h0
    exact u64w (by have : (m : Int) < 18446744073709551616 := by simpa using h1
                   omega)
  exact (bits_nat .u64 64 (by decide) hw x y (by simpa using hx) (by simpa using hy)).1
theorem ediv_lit (m x : Nat) (xi : Int) (h : xi = (x : Int)) : (m : Int) / xi = ((m / x : Nat) : Int) := by
  rw [h]
  exact (Int.natCast_ediv m x).symm
theorem fstep (x z s m : Nat) (si mi : Int) (hs : si = (s : Int)) (hm : mi = (m : Int)) (hx : x < 18446744073709551616) (hm64 : m < 18446744073709551616) (hz : (x / s &&& m) + (x &&& m) = z) (l : z < 18446744073709551616) :
    IntKind.u64.wrap ((Go.bits .and .u64 ((x : Int) / si) mi) + (Go.bits .and .u64 (x : Int) mi)) = (z : Int) := by
  rw [ediv_lit x s si hs, hm, andu64 _ _ (Nat.lt_of_le_of_lt (Nat.div_le_self x s) hx) hm64, andu64 _ _ hx hm64, ← Int.natCast_add, hz, u64w l]
theorem gstep (x z s : Nat) (si : Int) (hs : si = (s : Int)) (hz : x + x / s = z) (l : z < 18446744073709551616) :
    IntKind.u64.wrap ((x : Int) + (x : Int) / si) = (z : Int) := by
  rw [ediv_lit x s si hs, ← Int.natCast_add, hz, u64w l]
theorem gstep' (x z s : Nat) (si : Int) (hs : si = (s : Int)) (hz : x / s + x = z) (l : z < 18446744073709551616) :
    IntKind.u64.wrap ((x : Int) / si + (x : Int)) = (z : Int) := by
  rw [ediv_lit x s si hs, ← Int.natCast_add, hz, u64w l]
theorem and127 (z : Nat) : Go.bits .and .i64 (wrap64 (z : Int)) 127 = ((z % 128 : Nat) : Int) := by
  have ho : BitVec.ofInt 64 (wrap64 (z : Int)) = BitVec.ofNat 64 z := by
    apply BitVec.eq_of_toNat_eq
    rw [BitVec.toNat_ofInt, BitVec.toNat_ofNat]
    unfold wrap64
    simp only [Nat.reducePow]
    omega
  have h127 : (BitVec.ofInt 64 127).toNat = 127 := by decide
  show IntKind.i64.wrap ((BitVec.ofInt 64 (wrap64 (z : Int)) &&& BitVec.ofInt 64 127).toNat : Int) = _
  rw [BitVec.toNat_and, ho, h127, BitVec.toNat_ofNat]
  have ha : z % 2 ^ 64 &&& 127 = z % 128 := by
    have := Nat.and_two_pow_sub_one_eq_mod (z % 2 ^ 64) 7
    simp only [Nat.reducePow, Nat.reduceSub] at this ⊢
    rw [this]
    omega
  rw [ha, IntKind.wrap_i64]
  omega
/-- The library's formula, step under step. -/
theorem ones_formula (n : Nat) (hn : n < 18446744073709551616) (y1 y2 y3 y4 y5 y6 : Int)
    (e1 : y1 = IntKind.u64.wrap ((Go.bits .and .u64 ((n : Int) / 2) 6148914691236517205) + (Go.bits .and .u64 (n : Int) 6148914691236517205)))
    (e2 : y2 = IntKind.u64.wrap ((Go.bits .and .u64 (y1 / 4) 3689348814741910323) + (Go.bits .and .u64 y1 3689348814741910323)))
    (e3 : y3 = Go.bits .and .u64 (IntKind.u64.wrap (y2 / 16 + y2)) 1085102592571150095)
    (e4 : y4 = IntKind.u64.wrap (y3 + y3 / 256)) (e5 : y5 = IntKind.u64.wrap (y4 + y4 / 65536)) (e6 : y6 = IntKind.u64.wrap (y5 + y5 / 4294967296)) :
    Go.bits .and .i64 (wrap64 y6) 127 = (Lib.onesCount n : Int) := by
  obtain ⟨z1, h1⟩ : ∃ z, (n / 2 &&& 6148914691236517205) + (n &&& 6148914691236517205) = z := ⟨_, rfl⟩
  obtain ⟨z2, h2⟩ : ∃ z, (z1 / 4 &&& 3689348814741910323) + (z1 &&& 3689348814741910323) = z := ⟨_, rfl⟩
  obtain ⟨z3, h3⟩ : ∃ z, (z2 / 16 + z2) &&& 1085102592571150095 = z := ⟨_, rfl⟩
  obtain ⟨z4, h4⟩ : ∃ z, z3 + z3 / 256 = z := ⟨_, rfl⟩
  obtain ⟨z5, h5⟩ : ∃ z, z4 + z4 / 65536 = z := ⟨_, rfl⟩
  obtain ⟨z6, h6⟩ : ∃ z, z5 + z5 / 4294967296 = z := ⟨_, rfl⟩
  obtain ⟨s, l1, l2, l2', l4, l5, l6⟩ := swar n hn z1 z2 z3 z4 z5 z6 h1.symm h2.symm h3.symm h4.symm h5.symm h6.symm
  have d1 : y1 = (z1 : Int) := e1.trans (fstep n z1 2 6148914691236517205 2 6148914691236517205 rfl rfl hn (by decide) h1 l1)
  rw [d1] at e2
  have d2 : y2 = (z2 : Int) := e2.trans (fstep z1 z2 4 3689348814741910323 4 3689348814741910323 rfl rfl l1 (by decide) h2 l2)
  rw [d2, gstep' z2 _ 16 16 rfl rfl l2'] at e3
  have d3 : y3 = (z3 : Int) := by
    rw [e3, show (1085102592571150095 : Int) = ((1085102592571150095 : Nat) : Int) from rfl, andu64 _ _ l2' (by decide), h3]
  rw [d3] at e4
  have d4 : y4 = (z4 : Int) := e4.trans (gstep z3 z4 256 256 rfl h4 l4)
  rw [d4] at e5
  have d5 : y5 = (z5 : Int) := e5.trans (gstep z4 z5 65536 65536 rfl h5 l5)
  rw [d5] at e6
  have d6 : y6 = (z6 : Int) := e6.trans (gstep z5 z6 4294967296 4294967296 rfl h6 l6)
  rw [d6, and127, s]

theorem ones_le (n : Nat) : Lib.onesCount n ≤ 64 := by
  have : ∀ k x, Lib.popAux k x ≤ k := by
    intro k
    induction k with
    | zero => intro x; exact Nat.le_refl _
    | succ k ih => intro x; simp only [Lib.popAux]; have := ih (x / 2); omega
  exact this 64 n

def bits_OnesCount64.f (a0 : Int) : Option Int := if 0 ≤ a0 ∧ a0 ≤ 18446744073709551615 then some (Lib.onesCount a0.toNat : Int) else none
set_option maxHeartbeats 8000000 in
set_option maxRecDepth 100000 in
theorem bits_OnesCount64.calls (a0 : Int) (r : Int) (w : World) (h : bits_OnesCount64.f a0 = some r) :
    Calls Tryd.prog 95 #[.int .u64 a0] w fun e w' => e = .returned (.int .i64 r) ∧ Drawn0 w w' := by
  unfold bits_OnesCount64.f at h
  split at h
  case isFalse => cases h
  rename_i hb
  injection h with h
  have hf := ones_formula a0.toNat (by omega) _ _ _ _ _ _ rfl rfl rfl rfl rfl rfl
  rw [h, Int.toNat_of_nonneg hb.1] at hf
  have HF := Aside0.mk hf
  clear hf h hb
  go_enter Tryd.func95, Tryd.ntmps95
  go_wp2
  go_ret
  exact ⟨by have hz_ := HF.out; first | (subst hz_; rfl) | (rw [← hz_]; rfl) | (rw [← hz_]; simp), by repeat (first | exact Drawn0.refl _ | apply Drawn0.step)⟩

def bits_OnesCount.f (a0 : Int) : Option Int := if 0 ≤ a0 ∧ a0 ≤ 18446744073709551615 then some (Lib.onesCount a0.toNat : Int) else none
set_option maxHeartbeats 8000000 in
theorem bits_OnesCount.calls (a0 : Int) (r : Int) (w : World) (h : bits_OnesCount.f a0 = some r) :
    Calls Tryd.prog 80 #[.int .u64 a0] w fun e w' => e = .returned (.int .i64 r) ∧ Drawn0 w w' := by
  have h' : bits_OnesCount64.f a0 = some r := h
  have HF := Aside0.mk h'
  clear h h'
  go_enter Tryd.func80, Tryd.ntmps80
  go_wp2_with (go_at_call 95; refine (bits_OnesCount64.calls a0 r _ HF.out).mono ?_; rintro e w' ⟨rfl, ⟨⟨n1, rfl⟩⟩⟩)
  go_ret
  exact ⟨rfl, by repeat (first | exact Drawn0.refl _ | apply Drawn0.step)⟩

end Go.Proofs.YtglajokjiphafaaDoor.P

namespace Go.Proofs.YtglajokjiphafaaDoor.P
open Go.RowKit Go.Proofs.YtglajokjiphafaaDoorW.PrintWords Go.Proofs.YtglajokjiphafaaDoorW.PrintLast Go.Proofs.YtglajokjiphafaaDoorW.PrintMore
attribute [local go_sem] max2_int min2_int max_two min_two max_three min_three max_four min_four   -- for this text's walks alone
set_option linter.unusedVariables false
set_option linter.unusedSimpArgs false

/-! ### find_sets_many: function 83 -/
def find_sets_many.f (a0 : Int) : Option (Int) := (bits_OnesCount64.f a0).bind fun t115 => (some t115)
set_option maxHeartbeats 8000000 in
set_option maxRecDepth 100000 in
theorem find_sets_many.calls (a0 : Int) (r : Int) (w : World) (h : find_sets_many.f a0 = some r) :
    Calls Tryd.prog 83 #[.int .u64 a0] w fun e w' => e = .returned (.int .i64 r) ∧ Drawn0 w w' := by
  have H : ((bits_OnesCount64.f a0).bind fun t115 => (some t115)) = some r := h
  clear h
  replace H := Option.bind_eq_some_iff.mp H
  obtain ⟨t115, A20, H⟩ := H
  replace H : (some t115) = some r := H
  have A2 := Aside0.mk A20
  clear A20
  obtain rfl := Option.some.inj H
  go_enter Tryd.func83, Tryd.ntmps83
  go_wp2_with (first | ((with_reducible refine gate_callee (f := 95) rfl ?_); refine goesL_ (some 4) rfl rfl Tryd.func95 (by kernel_rfl) rfl #[.int .u64 a0] rfl (by (try simp only [List.map_toArray, List.map_cons, List.map_nil]); first | done | rfl | (simp only [List.length_drop, List.length_take]; rfl)) ?_; (with_reducible refine (bits_OnesCount64.calls a0 t115 _ A2.out).mono ?_); rintro e w' ⟨rfl, ⟨nd, rfl⟩⟩; refine ⟨_, rfl, ?_⟩))
  go_ret
  exact ⟨by first | rfl | (simp; done) | (simp [*]; done), by repeat (first | exact Drawn0.refl _ | apply Drawn0.step)⟩

end Go.Proofs.YtglajokjiphafaaDoor.P

set_option linter.unusedSimpArgs false
set_option linter.unusedVariables false
namespace Go.Proofs.YtglajokjiphafaaDoor.P
open Go.Lib Go.RowKit Go.Proofs.YtglajokjiphafaaDoorW.PrintWords Go.Proofs.YtglajokjiphafaaDoorW.PrintLast Go.Proofs.YtglajokjiphafaaDoorW.PrintMore Go.Proofs.YtglajokjiphafaaDoor.Kit
attribute [local go_sem] max2_int min2_int max_two min_two max_three min_three max_four min_four

theorem with_calls (h s : Nat) (hh : h < 18446744073709551616) (hs : s ≤ 63) (w : World) :
    Calls Tryd.prog 81 #[.int .u64 (h : Int), .int .i64 (s : Int)] w fun e w' => e = .returned (.int .u64 ((h ||| 2 ^ s : Nat) : Int)) ∧ Drawn0 w w' := by
  refine find_sets.calls (h : Int) (s : Int) _ w ?_
  unfold find_sets.f
  rw [if_pos (by omega), shlu hs, oru _ _ hh]
  have h1 : 2 ^ s ≤ 2 ^ 63 := Nat.pow_le_pow_right (by decide) hs
  have h2 : (2 : Nat) ^ 63 = 9223372036854775808 := rfl
  omega
theorem or_lt64 {h s : Nat} (hh : h < 18446744073709551616) (hs : s ≤ 63) : h ||| 2 ^ s < 18446744073709551616 := by
  have h1 : 2 ^ s < 2 ^ 64 := Nat.pow_lt_pow_right (by decide) (by omega)
  have := Nat.or_lt_two_pow (n := 64) (x := h) (y := 2 ^ s) (by simpa using hh) h1
  simpa using this
set_option maxHeartbeats 4000000
set_option maxRecDepth 100000
theorem parted_calls (f t : Nat) (hf : f < 18446744073709551616) (ht : t < 4611686018427387904) (W : World) (hT : TabG W) :
    Calls Tryd.prog 85 #[.int .u64 (f : Int), .int .i64 (t : Int)] W fun e w' => e = .returned (.tuple #[.int .u64 (hitN t f : Int), .int .u64 (andn f (hitN t f) : Int)]) ∧ Drawn0 W w' := by
  have HT := Aside0.mk hT
  have HFt := Aside0.mk hf
  have Htt := Aside0.mk ht
  have HA := Aside0.mk (andnu f (hitN t f) hf (hitN_lt t f))
  clear hT hf ht
  go_enter Tryd.func85, Tryd.ntmps85
  go_wp2
  go_loopw [6, 7] (fun v6 v7 w' => ∃ h x : Nat, v6 = .int .u64 (h : Int) ∧ v7 = .int .u64 (x : Int) ∧ Aside0 (h < 18446744073709551616) ∧ Aside0 (x < 18446744073709551616) ∧ Aside0 (h ||| hitN t x = hitN t f) ∧ Drawn0 W w') (fun _ v _ => (intOf v).toNat)
  case atStart => exact ⟨0, f, rfl, rfl, ⟨by decide⟩, HFt, ⟨by simp⟩, Drawn0.refl W⟩
  case round =>
    obtain ⟨h, x, rfl, rfl, Hh, Hx, HS, ⟨nd, rfl⟩⟩ := hrel
    by_cases cx : (0 : Int) < (x : Int)
    · have c1 : decide ((0 : Int) < (x : Int)) = true := decide_eq_true cx
      have c2 : decide (0 < x) = true := decide_eq_true (by omega)
      have Hx0 := Aside0.mk (show 0 < x by omega)
      have hsp := ctz_spec x Hx0.out Hx.out
      have hr := hit_round t x Hx0.out Hx.out
      have Htz := Aside0.mk (fun w (h : TabG w) => tz_calls x Hx0.out Hx.out w h)
      have hx2 : x &&& (x - 1) < x := and_pred_lt Hx0.out
      have hand : Go.bits .and .u64 (x : Int) (IntKind.u64.wrap ((x : Int) - 1)) = ((x &&& (x - 1) : Nat) : Int) := by
        rw [show (x : Int) - 1 = ((x - 1 : Nat) : Int) by omega, u64w0 (by have := Hx.out; omega), andu _ _ Hx.out (by have := Hx.out; omega)]
      have hand2 : Go.bits .and .u64 (x : Int) ((x : Int) - 1) = ((x &&& (x - 1) : Nat) : Int) := by
        rw [show (x : Int) - 1 = ((x - 1 : Nat) : Int) by omega, andu _ _ Hx.out (by have := Hx.out; omega)]
      have Hx2 := Aside0.mk hx2
      have Hand := Aside0.mk (And.intro hand hand2)
      have Hsp := Aside0.mk hsp
      have Hr := Aside0.mk hr
      clear hsp hr hx2 hand hand2 cx
      generalize Lib.ctz 64 x = s at *
      have hst : Go.bits .and .i64 (s : Int) (t : Int) = ((s &&& t : Nat) : Int) := and64 s t (by have := Hsp.out.1; omega) (by have := Htt.out; omega)
      by_cases cs : s &&& t = 0
      · have c3 : ((Go.bits .and .i64 (s : Int) (t : Int)) == 0) = true := by rw [hst, cs]; rfl
        have c4 : ((Go.bits .and .i64 (s : Int) (t : Int)) != 0) = false := by rw [hst, cs]; rfl
        have Hcs := Aside0.mk cs
        clear hst cs
        go_wp2_with (first | (go_at_call 96; (with_reducible refine (Htz.out _ (HT.out.drewN _)).mono ?_); rintro e w' ⟨rfl, rfl⟩) | (go_at_call 81; (with_reducible refine (with_calls h s Hh.out (by have := Hsp.out.1; omega) _).mono ?_); rintro e w' ⟨rfl, ⟨nd2, rfl⟩⟩))
        go_roundw
        case rel => exact ⟨h, x &&& (x - 1), rfl, by first | rw [Hand.out.1] | rw [Hand.out.2], Hh, ⟨Nat.lt_trans Hx2.out Hx.out⟩, ⟨by have h1 := HS.out; rw [Hr.out, if_neg (by simpa using Hcs.out)] at h1; rw [Nat.zero_or] at h1; exact h1⟩, ⟨_, rfl⟩⟩
        case measure => (first | rw [Hand.out.1] | rw [Hand.out.2]); have := Hx2.out; simp [intOf]; omega
      · have c3 : ((Go.bits .and .i64 (s : Int) (t : Int)) == 0) = false := by rw [hst]; exact beq_eq_false_iff_ne.2 (by omega)
        have c4 : ((Go.bits .and .i64 (s : Int) (t : Int)) != 0) = true := by rw [hst]; exact bne_iff_ne.2 (by omega)
        have Hcs := Aside0.mk cs
        clear hst cs
        go_wp2_with (first | (go_at_call 96; (with_reducible refine (Htz.out _ (HT.out.drewN _)).mono ?_); rintro e w' ⟨rfl, rfl⟩) | (go_at_call 81; (with_reducible refine (with_calls h s Hh.out (by have := Hsp.out.1; omega) _).mono ?_); rintro e w' ⟨rfl, ⟨nd2, rfl⟩⟩))
        go_roundw
        case rel => exact ⟨h ||| 2 ^ s, x &&& (x - 1), rfl, by first | rw [Hand.out.1] | rw [Hand.out.2], ⟨or_lt64 Hh.out (by have := Hsp.out.1; omega)⟩, ⟨Nat.lt_trans Hx2.out Hx.out⟩, ⟨by have h1 := HS.out; rw [Hr.out, if_pos Hcs.out] at h1; rw [Nat.or_assoc]; exact h1⟩, ⟨_, rfl⟩⟩
        case measure => (first | rw [Hand.out.1] | rw [Hand.out.2]); have := Hx2.out; simp [intOf]; omega
    · have c1 : decide ((0 : Int) < (x : Int)) = false := decide_eq_false cx
      have c2 : decide (0 < x) = false := decide_eq_false (by omega)
      have hx0 : x = 0 := by omega
      subst hx0
      have Hf := Aside0.mk (show h = hitN t f by have := HS.out; rw [show hitN t 0 = 0 by rw [← bitsL_zero (hitN_lt t 0), bitsL_hit t 0 (by decide)]; rfl, Nat.or_zero] at this; exact this)
      clear cx
      go_wp2
      go_ret2
      exact ⟨by rw [← HA.out, ← Hf.out]; rfl, _, rfl⟩
end Go.Proofs.YtglajokjiphafaaDoor.P
