/- Several texts of this session in one file, in build order: DRows, DRowsB, DClrP, DSetP, Isort, HSort, Pf105, Pf90, Pf67, DSortF, DOut, DSetV, HCompact, Pf63, DClrA, DSets, Pf55, Pf49, Pf50, Pf73, Pf79, Pf51. -/
import Derived.Test.YtglajokjiphafaaDoorJB1
import Derived.Deep.Matrix
import Derived.OpenShut
import Derived.ProofKit
import Derived.Deep.Grids
import Init.Data.List.Sort.Lemmas
import Derived.Shelf.SlSortCmp.NoneTotal
import Derived.Shelf.Lay
import Derived.Ground.SlsfProg
set_option linter.unusedSimpArgs false
set_option linter.unusedVariables false
namespace Go.Proofs.YtglajokjiphafaaDoor.P
open Go.Lib Go.RowKit Go.ChangeShapes Go.WideShapes Go.ChangeAt Go.Proofs.YtglajokjiphafaaDoorW.PrintWords Go.Proofs.YtglajokjiphafaaDoorW.PrintLast Go.Proofs.YtglajokjiphafaaDoorW.PrintMore

theorem C_scalar {k : IntKind} {w : World} {a : Addr} {zs : List Int} (hl : zs.length ≤ 9223372036854775807) (hc : ∀ i, (h : i < zs.length) → w.cell? (a.add i) = some (.int k zs[i])) : Kd.C (Kd.int k) w (some a) zs.length zs := by
  refine ⟨rfl, hl, fun _ => ⟨a, rfl, fun j p hp => ?_⟩⟩
  obtain ⟨hj, rfl⟩ := List.getElem?_eq_some_iff.1 hp
  refine ⟨[.int k zs[j]], rfl, rfl, fun i u hu => ?_⟩
  cases i with
  | zero =>
    have h1 : u = .int k zs[j] := by simpa using hu.symm
    subst h1
    have h2 : j * (Kd.int k).sz + 0 = j := by show j * 1 + 0 = j; omega
    rw [h2]
    exact hc j hj
  | succ i => simp at hu
theorem C_nil {α : Type} (d : Kd α) (w : World) (A : Option Addr) : Kd.C d w A ([] : List α).length [] := ⟨rfl, by simp, fun h => by simp at h⟩
theorem ints_open {H : Type} {enc : TypeId × Value → H} {w : World} {base : Nat} {held : Bool} {fuel : Nat} {A : Option Addr} {len cap : Nat} {x : DataW H × List MemPlace}
    (h : DataW.trod enc Tryd.prog w base (fun _ => true) held fuel 25 (Value.slice A len cap).cells.toList = some x) : ∃ z : List Int, z.length = len ∧ Kd.C (Kd.int .i64) w A len z ∧ len ≤ cap := by
  rcases open_ints Tryd.underlying25 Tryd.underlying3 (by kernel_rfl) h with ⟨hcs, _⟩ | ⟨a, l, c, zs, hcs, _, hl, hm, hz, _, hcell, hwz⟩
  · simp [Value.cells] at hcs
    obtain ⟨rfl, rfl, rfl⟩ := hcs
    exact ⟨[], rfl, C_nil _ _ _, Nat.le_refl _⟩
  · simp [Value.cells] at hcs
    obtain ⟨rfl, rfl, rfl⟩ := hcs
    have hzl : zs.length = cap := by simpa using hz
    have ht : (zs.take len).length = len := by rw [List.length_take]; omega
    refine ⟨zs.take len, ht, ?_, hl⟩
    have := C_scalar (k := .i64) (w := w) (a := a) (zs := zs.take len) (by rw [ht]; unfold maxLen at hm; omega) (fun i hi => by
      have h1 := hcell i (by rw [List.length_take] at hi; omega)
      rw [h1]
      rw [List.length_take] at hi
      simp [List.getD_eq_getElem?_getD, List.getElem?_eq_getElem (show i < zs.length by omega)])
    rw [ht] at this
    exact this
theorem rows_open {H : Type} {enc : TypeId × Value → H} {w : World} {base : Nat} {held : Bool} {fuel : Nat} {A : Option Addr} {len cap : Nat} {x : DataW H × List MemPlace}
    (h : DataW.trod enc Tryd.prog w base (fun _ => true) held fuel 22 (Value.slice A len cap).cells.toList = some x) : ∃ z : List (List Int), z.length = len ∧ Kd.C (Kd.slice 3 (Kd.int .i64)) w A len z ∧ len ≤ cap := by
  rcases Go.Deep.open_int_rows Tryd.underlying22 Tryd.underlying25 Tryd.underlying3 (by kernel_rfl) (by kernel_rfl) h with ⟨hcs, _⟩ | ⟨a, l, c, A1, L, C, Z, hcs, _, hl, hm, _, hr⟩
  · simp [Value.cells] at hcs
    obtain ⟨rfl, rfl, rfl⟩ := hcs
    exact ⟨[], rfl, C_nil _ _ _, Nat.le_refl _⟩
  · simp [Value.cells] at hcs
    obtain ⟨rfl, rfl, rfl⟩ := hcs
    refine ⟨(List.range len).map fun r => (Z r).take (L r), by simp, ⟨by simp, by unfold maxLen at hm; omega, fun _ => ⟨a, rfl, fun j p hp => ?_⟩⟩, hl⟩
    obtain ⟨hj, rfl⟩ := List.getElem?_eq_some_iff.1 hp
    have hj' : j < len := by simpa using hj
    obtain ⟨h1, h2, h3, h4, _, h6, h7⟩ := hr j (by omega)
    have ht : ((Z j).take (L j)).length = L j := by rw [List.length_take]; omega
    refine ⟨[.slice (A1 j) (L j) (C j)], rfl, ⟨A1 j, C j, by simp [ht], by simp [ht]; omega, ?_⟩, fun i u hu => ?_⟩
    · rw [List.getElem_map, List.getElem_range]
      cases hA : A1 j with
      | none =>
        have h0 := h6 hA
        have hz : (Z j).take (L j) = [] := List.length_eq_zero_iff.1 (by omega)
        rw [hz]
        exact C_nil _ _ _
      | some a' =>
        have h8 := (h7 a' hA).2
        exact C_scalar (by rw [ht]; unfold maxLen at h3; omega) (fun i hi => by
          rw [h8 i (by omega)]
          simp [List.getD_eq_getElem?_getD, List.getElem?_eq_getElem (show i < (Z j).length by omega)])
    · cases i with
      | zero =>
        have h9 : u = .slice (A1 j) (L j) (C j) := by simpa using hu.symm
        subst h9
        have h10 : j * (Kd.slice 3 (Kd.int .i64)).sz + 0 = j := by show j * 1 + 0 = j; omega
        rw [h10]
        exact h1
      | succ i => simp at hu
end Go.Proofs.YtglajokjiphafaaDoor.P

set_option linter.unusedSimpArgs false
set_option linter.unusedVariables false
namespace Go.Proofs.YtglajokjiphafaaDoor.P
open Go.Lib Go.RowKit Go.ChangeShapes Go.WideShapes Go.ChangeAt Go.Proofs.YtglajokjiphafaaDoorW.PrintWords Go.Proofs.YtglajokjiphafaaDoorW.PrintLast Go.Proofs.YtglajokjiphafaaDoorW.PrintMore

theorem bools_open {H : Type} {enc : TypeId × Value → H} {w : World} {base : Nat} {held : Bool} {fuel : Nat} {A : Option Addr} {len cap : Nat} {x : DataW H × List MemPlace}
    (h : DataW.trod enc Tryd.prog w base (fun _ => true) held fuel 40 (Value.slice A len cap).cells.toList = some x) : ∃ z : List Bool, z.length = len ∧ Kd.C Kd.bool w A len z ∧ len ≤ cap := by
  rcases Go.Deep.open_bools Tryd.underlying40 Tryd.underlying4 (by kernel_rfl) h with ⟨hcs, _⟩ | ⟨a, l, c, B, hcs, _, hl, hm, _, hcell⟩
  · simp [Value.cells] at hcs
    obtain ⟨rfl, rfl, rfl⟩ := hcs
    exact ⟨[], rfl, C_nil _ _ _, Nat.le_refl _⟩
  · simp [Value.cells] at hcs
    obtain ⟨rfl, rfl, rfl⟩ := hcs
    refine ⟨(List.range len).map B, by simp, ⟨by simp, by unfold maxLen at hm; omega, fun _ => ⟨a, rfl, fun j p hp => ?_⟩⟩, hl⟩
    obtain ⟨hj, rfl⟩ := List.getElem?_eq_some_iff.1 hp
    have hj' : j < len := by simpa using hj
    refine ⟨[.bool (((List.range len).map B)[j])], rfl, rfl, fun i u hu => ?_⟩
    cases i with
    | zero =>
      have h1 : u = .bool (((List.range len).map B)[j]) := by simpa using hu.symm
      subst h1
      have h2 : j * Kd.bool.sz + 0 = j := by show j * 1 + 0 = j; omega
      rw [h2, hcell j (by omega)]
      simp
    | succ i => simp at hu
end Go.Proofs.YtglajokjiphafaaDoor.P

set_option linter.unusedSimpArgs false
set_option linter.unusedVariables false
namespace Go.Proofs.YtglajokjiphafaaDoor.P
open Go.Lib Go.RowKit Go.Proofs.YtglajokjiphafaaDoorW.PrintWords Go.Proofs.YtglajokjiphafaaDoorW.PrintLast Go.Proofs.YtglajokjiphafaaDoorW.PrintMore Go.Proofs.YtglajokjiphafaaDoor.Kit

/-- The outcomes of the tests. -/
def outB (d : List (List Int)) (f : List Int) : List Bool := d.map fun r => f.any fun x => r.contains x
theorem outB_length (d : List (List Int)) (f : List Int) : (outB d f).length = d.length := by simp [outB]
/-- Outcomes as bits. -/
def toldN : List Bool → Nat
  | [] => 0
  | b :: l => (if b = true then 1 else 0) + 2 * toldN l
theorem testBit_told : ∀ (l : List Bool) (i : Nat), (toldN l).testBit i = l.getD i false
  | [], i => by simp [toldN]
  | b :: l, 0 => by
    simp only [toldN, List.getD_cons_zero]
    rw [Nat.testBit_zero]
    cases b <;> simp <;> omega
  | b :: l, i + 1 => by
    simp only [toldN, List.getD_cons_succ]
    rw [← testBit_told l i, Nat.testBit_succ]
    congr 1
    split <;> omega
theorem toldN_lt : ∀ l : List Bool, toldN l < 2 ^ l.length
  | [] => Nat.zero_lt_one
  | b :: l => by
    have := toldN_lt l
    simp only [toldN, List.length_cons, Nat.pow_succ]
    split <;> omega
theorem toldN_lt64 {l : List Bool} (h : l.length ≤ 64) : toldN l < 18446744073709551616 := by
  have h1 := toldN_lt l
  have h2 : 2 ^ l.length ≤ 2 ^ 64 := Nat.pow_le_pow_right (by decide) h
  have h3 : (2 : Nat) ^ 64 = 18446744073709551616 := rfl
  omega
theorem toldN_snoc (l : List Bool) (b : Bool) : toldN (l ++ [b]) = toldN l ||| (if b = true then 2 ^ l.length else 0) := by
  refine Nat.eq_of_testBit_eq fun i => ?_
  rw [Nat.testBit_or, testBit_told, testBit_told]
  have hq : ∀ _ : i ≠ l.length, (if b = true then 2 ^ l.length else 0).testBit i = false := by
    intro h
    split
    · rw [Nat.testBit_two_pow]; simp; omega
    · simp
  rcases Nat.lt_trichotomy i l.length with h | h | h
  · rw [show (l ++ [b]).getD i false = l.getD i false by simp [List.getD_eq_getElem?_getD, List.getElem?_append_left h], hq (by omega), Bool.or_false]
  · subst h
    rw [show (l ++ [b]).getD l.length false = b by simp [List.getD_eq_getElem?_getD], show l.getD l.length false = false by simp [List.getD_eq_getElem?_getD]]
    cases b <;> simp [Nat.testBit_two_pow]
  · rw [hq (by omega), Bool.or_false]
    simp only [List.getD_eq_getElem?_getD]
    rw [List.getElem?_eq_none (by simp; omega), List.getElem?_eq_none (by omega)]
theorem darkN_told (d : List (List Int)) (f : List Int) : darkN d f = toldN (outB d f) := by
  refine Nat.eq_of_testBit_eq fun i => ?_
  rw [testBit_darkN, testBit_told]
  unfold outB
  by_cases h : i < d.length
  · simp [List.getD_eq_getElem?_getD, h]
  · simp [List.getD_eq_getElem?_getD, List.getElem?_eq_none (show d.length ≤ i by omega)]
theorem toldN_inj {a b : List Bool} (hl : a.length = b.length) (h : toldN a = toldN b) : a = b := by
  refine List.ext_getElem hl fun i h1 h2 => ?_
  have := testBit_told a i
  rw [h, testBit_told] at this
  simp only [List.getD_eq_getElem?_getD, List.getElem?_eq_getElem h1, List.getElem?_eq_getElem h2, Option.getD_some] at this
  exact this.symm
theorem dark_same (d : List (List Int)) (f : List Int) (o : List Bool) (hl : o.length = d.length) : decide (darkN d f = toldN o) = decide (outB d f = o) := by
  rw [darkN_told]
  by_cases h : outB d f = o
  · simp [h]
  · rw [decide_eq_false h, decide_eq_false (fun e => h (toldN_inj (by rw [outB_length, hl]) e))]
/-- Is a tube in a test that is not dark? -/
def clB (d : List (List Int)) (o : List Bool) (t : Int) : Bool := (d.zip o).any fun p => p.1.contains t && !p.2
theorem clB_iff (d : List (List Int)) (o : List Bool) (hl : o.length = d.length) (t : Int) : clB d o t = true ↔ andn (fam t d) (toldN o) ≠ 0 := by
  unfold clB
  rw [List.any_eq_true]
  constructor
  · rintro ⟨⟨r, b⟩, hp, hc⟩
    obtain ⟨i, hi, e⟩ := List.mem_iff_getElem.1 hp
    intro h0
    have h1 : (andn (fam t d) (toldN o)).testBit i = false := by rw [h0, Nat.zero_testBit]
    rw [List.length_zip] at hi
    rw [List.getElem_zip] at e
    injection e with e1 e2
    subst e1 e2
    rw [testBit_andn, testBit_fam, testBit_told] at h1
    simp only [List.getD_eq_getElem?_getD, List.getElem?_eq_getElem (show i < d.length by omega), List.getElem?_eq_getElem (show i < o.length by omega), Option.getD_some] at h1
    rw [h1] at hc
    cases hc
  · intro h
    obtain ⟨i, hi⟩ := Nat.exists_testBit_of_ne_zero h
    rw [testBit_andn, testBit_fam, testBit_told] at hi
    by_cases hlt : i < d.length
    · simp only [List.getD_eq_getElem?_getD, List.getElem?_eq_getElem hlt, List.getElem?_eq_getElem (show i < o.length by omega), Option.getD_some] at hi
      exact ⟨(d[i], o[i]), List.mem_iff_getElem.2 ⟨i, by rw [List.length_zip]; omega, by rw [List.getElem_zip]⟩, hi⟩
    · simp [List.getD_eq_getElem?_getD, List.getElem?_eq_none (show d.length ≤ i by omega)] at hi
/-- The tubes that are cleared. -/
def clL (n : Nat) (d : List (List Int)) (o : List Bool) : List Int := ((List.range n).map fun (t : Nat) => (t : Int)).filter (clB d o)
theorem mem_clL (n : Nat) (d : List (List Int)) (o : List Bool) (t : Int) : t ∈ clL n d o ↔ (0 ≤ t ∧ t < (n : Int)) ∧ clB d o t = true := by
  unfold clL
  rw [List.mem_filter, List.mem_map]
  constructor
  · rintro ⟨⟨j, hj, rfl⟩, h⟩
    rw [List.mem_range] at hj
    exact ⟨by omega, h⟩
  · rintro ⟨⟨h0, h1⟩, h⟩
    exact ⟨⟨t.toNat, List.mem_range.2 (by omega), by omega⟩, h⟩
/-- Those of a test that are not cleared. -/
def leftL (c r : List Int) : List Int := r.filter fun t => !c.contains t
def aloneF (c : List Int) (p : List Int × Bool) : Option Int := if p.2 = true ∧ (leftL c p.1).length = 1 then some ((leftL c p.1).getD 0 0) else none
def aloneL (d : List (List Int)) (o : List Bool) (c : List Int) : List Int := (d.zip o).filterMap (aloneF c)
theorem aloneF_iff (c r : List Int) (b : Bool) (x : Int) (hr : r.Pairwise (· < ·)) : aloneF c (r, b) = some x ↔ b = true ∧ r.contains x = true ∧ c.contains x = false ∧ ∀ y ∈ r, c.contains y = false → y = x := by
  unfold aloneF
  have hm : ∀ y, y ∈ leftL c r ↔ y ∈ r ∧ c.contains y = false := fun y => by unfold leftL; rw [List.mem_filter]; simp
  have hnd : (leftL c r).Nodup := (hr.imp (fun {a b} h e => by omega)).filter _
  constructor
  · intro h
    split at h
    case isFalse => cases h
    rename_i hc
    obtain ⟨y, hy⟩ := List.length_eq_one_iff.1 hc.2
    have hy' : leftL c r = [y] := hy
    injection h with h
    rw [show leftL c (r, b).1 = [y] from hy'] at h
    have e : y = x := h
    subst e
    have := (hm y).1 (by rw [hy']; exact List.mem_singleton.2 rfl)
    refine ⟨hc.1, by simpa using this.1, this.2, fun z hz hcz => ?_⟩
    have := (hm z).2 ⟨hz, hcz⟩
    rw [hy'] at this
    exact List.mem_singleton.1 this
  · rintro ⟨rfl, h1, h2, h3⟩
    have e : leftL c r = [x] := by
      refine List.Perm.eq_singleton ((List.perm_ext_iff_of_nodup hnd (List.pairwise_singleton _ _)).2 fun y => ?_)
      rw [hm, List.mem_singleton]
      constructor
      · exact fun h => h3 y h.1 h.2
      · rintro rfl; exact ⟨by simpa using h1, h2⟩
    show (if true = true ∧ (leftL c r).length = 1 then some ((leftL c r).getD 0 0) else none) = some x
    rw [e]
    rfl
/-- The tubes that are alone in a test that is dark. -/
def alB (d : List (List Int)) (o : List Bool) (c : List Int) (t : Int) : Bool := !c.contains t && (d.zip o).any fun p => p.2 && (p.1.contains t && (p.1.filter fun y => y != t && !c.contains y).length == 0)
theorem alB_iff (d : List (List Int)) (o : List Bool) (c : List Int) (t : Int) (hr : ∀ r ∈ d, r.Pairwise (· < ·)) : alB d o c t = true ↔ t ∈ aloneL d o c := by
  unfold alB aloneL
  rw [List.mem_filterMap]
  simp only [Bool.and_eq_true, Bool.not_eq_true', List.any_eq_true, beq_iff_eq]
  constructor
  · rintro ⟨h1, ⟨r, b⟩, hp, h2, h3, h4⟩
    refine ⟨(r, b), hp, (aloneF_iff c r b t (hr r (List.of_mem_zip hp).1)).2 ⟨h2, h3, h1, fun y hy hc => ?_⟩⟩
    have := List.length_eq_zero_iff.1 h4
    have h5 := List.filter_eq_nil_iff.1 this y hy
    by_cases e : y = t
    · exact e
    · exact absurd (by simp [e]; simpa using hc) h5
  · rintro ⟨⟨r, b⟩, hp, h⟩
    obtain ⟨h1, h2, h3, h4⟩ := (aloneF_iff c r b t (hr r (List.of_mem_zip hp).1)).1 h
    refine ⟨h3, (r, b), hp, h1, h2, ?_⟩
    rw [List.length_eq_zero_iff, List.filter_eq_nil_iff]
    intro y hy h5
    simp only [Bool.and_eq_true, bne_iff_ne, Bool.not_eq_true'] at h5
    exact h5.1 (h4 y hy h5.2)
theorem asc_uniq {a b : List Int} (ha : a.Pairwise (· < ·)) (hb : b.Pairwise (· < ·)) (h : ∀ x, x ∈ a ↔ x ∈ b) : a = b := by
  refine List.Perm.eq_of_pairwise (le := fun x y => x < y) (fun x y _ _ h1 h2 => by omega) ha hb ((List.perm_ext_iff_of_nodup (ha.imp (fun {x y} h e => by omega)) (hb.imp (fun {x y} h e => by omega))).2 h)
def alL (n : Nat) (d : List (List Int)) (o : List Bool) (c : List Int) : List Int := ((List.range n).map fun (t : Nat) => (t : Int)).filter (alB d o c)
theorem range_asc (n : Nat) : ((List.range n).map fun (t : Nat) => (t : Int)).Pairwise (· < ·) := by
  rw [List.pairwise_map]
  exact List.pairwise_lt_range.imp (fun {a b} h => by omega)
theorem mem_alL (n : Nat) (d : List (List Int)) (o : List Bool) (c : List Int) (hr : ∀ r ∈ d, r.Pairwise (· < ·)) (hi : ∀ r ∈ d, ∀ x ∈ r, 0 ≤ x ∧ x < (n : Int)) (t : Int) : t ∈ alL n d o c ↔ t ∈ aloneL d o c := by
  unfold alL
  rw [List.mem_filter, alB_iff d o c t hr]
  constructor
  · exact fun h => h.2
  · intro h
    refine ⟨?_, h⟩
    unfold aloneL at h
    rw [List.mem_filterMap] at h
    obtain ⟨⟨r, b⟩, hp, h⟩ := h
    have hm := (List.of_mem_zip hp).1
    obtain ⟨h1, h2, h3, h4⟩ := (aloneF_iff c r b t (hr r hm)).1 h
    have h5 := hi r hm t (by simpa using h2)
    exact List.mem_map.2 ⟨t.toNat, List.mem_range.2 (by omega), by omega⟩
end Go.Proofs.YtglajokjiphafaaDoor.P

set_option linter.unusedSimpArgs false
set_option linter.unusedVariables false
namespace Go.Proofs.YtglajokjiphafaaDoor.P
open Go.Lib Go.RowKit Go.Proofs.YtglajokjiphafaaDoorW.PrintWords Go.Proofs.YtglajokjiphafaaDoorW.PrintLast Go.Proofs.YtglajokjiphafaaDoorW.PrintMore Go.Proofs.YtglajokjiphafaaDoor.Kit

/-- Ascending from one number on, below n. -/
def Asc (n : Nat) : Nat → List Int → Prop
  | _, [] => True
  | i, x :: l => ∃ t : Nat, x = (t : Int) ∧ i ≤ t ∧ t < n ∧ Asc n (t + 1) l
theorem mem_cmb (n : Nat) : ∀ (m i : Nat) (l : List Int), l ∈ cmb n m i ↔ l.length = m ∧ Asc n i l := by
  intro m
  induction m with
  | zero =>
    intro i l
    simp only [cmb, List.mem_singleton, List.length_eq_zero_iff]
    constructor
    · rintro rfl; exact ⟨rfl, trivial⟩
    · exact fun h => h.1
  | succ m ih =>
    intro i l
    simp only [cmb, List.mem_flatMap, List.mem_map, List.mem_range'_1]
    constructor
    · rintro ⟨t, ht, l', hl', rfl⟩
      obtain ⟨h1, h2⟩ := (ih _ _).1 hl'
      exact ⟨by simp [h1], t, rfl, by omega, by omega, h2⟩
    · rintro ⟨h1, h2⟩
      cases l with
      | nil => simp at h1
      | cons x l =>
        obtain ⟨t, rfl, h3, h4, h5⟩ := h2
        exact ⟨t, by omega, l, (ih _ _).2 ⟨by simpa using h1, h5⟩, rfl⟩
/-- All lists of at most so many numbers more, ascending, from one on, as the dictionary has them. -/
def pre (n : Nat) : Nat → Nat → List (List Int)
  | 0, _ => [[]]
  | m + 1, i => [] :: (List.range' i (n - i)).flatMap fun t => (pre n m (t + 1)).map ((t : Int) :: ·)
theorem mem_pre (n : Nat) : ∀ (m i : Nat) (l : List Int), l ∈ pre n m i ↔ l.length ≤ m ∧ Asc n i l := by
  intro m
  induction m with
  | zero =>
    intro i l
    simp only [pre, List.mem_singleton]
    constructor
    · rintro rfl; exact ⟨Nat.le_refl _, trivial⟩
    · exact fun h => List.length_eq_zero_iff.1 (by omega)
  | succ m ih =>
    intro i l
    simp only [pre, List.mem_cons, List.mem_flatMap, List.mem_map, List.mem_range'_1]
    constructor
    · rintro (rfl | ⟨t, ht, l', hl', rfl⟩)
      · exact ⟨Nat.zero_le _, trivial⟩
      · obtain ⟨h1, h2⟩ := (ih _ _).1 hl'
        exact ⟨by simp only [List.length_cons]; omega, t, rfl, by omega, by omega, h2⟩
    · rintro ⟨h1, h2⟩
      cases l with
      | nil => exact .inl rfl
      | cons x l =>
        obtain ⟨t, rfl, h3, h4, h5⟩ := h2
        exact .inr ⟨t, by omega, l, (ih _ _).2 ⟨by simp only [List.length_cons] at h1; omega, h5⟩, rfl⟩
/-- Earlier in the dictionary. -/
def llt : List Int → List Int → Bool
  | [], [] => false
  | [], _ :: _ => true
  | _ :: _, [] => false
  | x :: a, y :: b => decide (x < y) || (decide (x = y) && llt a b)
theorem llt_irr : ∀ a, llt a a = false
  | [] => rfl
  | x :: a => by simp [llt, llt_irr a]
theorem llt_trans : ∀ {a b c : List Int}, llt a b = true → llt b c = true → llt a c = true
  | [], [], _, h, _ => by simp [llt] at h
  | [], _ :: _, [], _, h => by simp [llt] at h
  | [], _ :: _, _ :: _, _, _ => rfl
  | _ :: _, [], _, h, _ => by simp [llt] at h
  | _ :: _, _ :: _, [], _, h => by simp [llt] at h
  | x :: a, y :: b, z :: c, h1, h2 => by
    simp only [llt, Bool.or_eq_true, Bool.and_eq_true, decide_eq_true_eq] at h1 h2 ⊢
    rcases h1 with h1 | ⟨h1, h1'⟩ <;> rcases h2 with h2 | ⟨h2, h2'⟩
    · left; omega
    · left; omega
    · left; omega
    · right; exact ⟨by omega, llt_trans h1' h2'⟩
theorem llt_total : ∀ {a b : List Int}, llt a b = false → llt b a = false → a = b
  | [], [], _, _ => rfl
  | [], _ :: _, h, _ => by simp [llt] at h
  | _ :: _, [], _, h => by simp [llt] at h
  | x :: a, y :: b, h1, h2 => by
    simp only [llt, Bool.or_eq_false_iff, decide_eq_false_iff_not] at h1 h2
    have e : x = y := by omega
    subst e
    have h1' := h1.2
    have h2' := h2.2
    simp only [decide_true, Bool.true_and] at h1' h2'
    rw [llt_total h1' h2']
theorem pre_asc (n : Nat) : ∀ (m i : Nat), (pre n m i).Pairwise (fun a b => llt a b = true) := by
  intro m
  induction m with
  | zero => intro i; exact List.pairwise_singleton _ _
  | succ m ih =>
    intro i
    simp only [pre]
    refine List.pairwise_cons.2 ⟨fun l hl => ?_, List.pairwise_flatMap.2 ⟨fun t ht => ?_, ?_⟩⟩
    · rw [List.mem_flatMap] at hl
      obtain ⟨t, _, hl⟩ := hl
      rw [List.mem_map] at hl
      obtain ⟨l', _, rfl⟩ := hl
      rfl
    · rw [List.pairwise_map]
      refine (ih (t + 1)).imp (fun {a b} h => ?_)
      simp [llt, h]
    · refine (List.pairwise_lt_range' (s := i) (n := n - i)).imp (fun {a b} h => ?_)
      intro x hx y hy
      rw [List.mem_map] at hx hy
      obtain ⟨x', _, rfl⟩ := hx
      obtain ⟨y', _, rfl⟩ := hy
      simp only [llt, Bool.or_eq_true, decide_eq_true_eq]
      left; omega
theorem cmb_asc (n : Nat) : ∀ (m i : Nat), (cmb n m i).Pairwise (fun a b => llt a b = true) := by
  intro m
  induction m with
  | zero => intro i; exact List.pairwise_singleton _ _
  | succ m ih =>
    intro i
    simp only [cmb]
    refine List.pairwise_flatMap.2 ⟨fun t ht => ?_, ?_⟩
    · rw [List.pairwise_map]
      refine (ih (t + 1)).imp (fun {a b} h => ?_)
      simp [llt, h]
    · refine (List.pairwise_lt_range' (s := i) (n := n - i)).imp (fun {a b} h => ?_)
      intro x hx y hy
      rw [List.mem_map] at hx hy
      obtain ⟨x', _, rfl⟩ := hx
      obtain ⟨y', _, rfl⟩ := hy
      simp only [llt, Bool.or_eq_true, decide_eq_true_eq]
      left; omega
theorem nodup_of_llt {l : List (List Int)} (h : l.Pairwise (fun a b => llt a b = true)) : l.Nodup := h.imp (fun {a b} h e => by subst e; rw [llt_irr] at h; cases h)
/-- All sets, by their number of tubes. -/
def byMany (n M : Nat) : List (List Int) := (List.range (M + 1)).flatMap fun m => cmb n m 0
theorem byMany_perm (n M : Nat) : (byMany n M).Perm (pre n M 0) := by
  refine (List.perm_ext_iff_of_nodup ?_ (nodup_of_llt (pre_asc n M 0))).2 (fun l => ?_)
  · refine List.pairwise_flatMap.2 ⟨fun m _ => nodup_of_llt (cmb_asc n m 0), ?_⟩
    refine (List.pairwise_lt_range (n := M + 1)).imp (fun {a b} h => ?_)
    intro x hx y hy e
    subst e
    have h1 := ((mem_cmb _ _ _ _).1 hx).1
    have h2 := ((mem_cmb _ _ _ _).1 hy).1
    omega
  · unfold byMany
    rw [List.mem_flatMap, mem_pre]
    constructor
    · rintro ⟨m, hm, hl⟩
      obtain ⟨h1, h2⟩ := (mem_cmb _ _ _ _).1 hl
      rw [List.mem_range] at hm
      exact ⟨by omega, h2⟩
    · rintro ⟨h1, h2⟩
      exact ⟨l.length, List.mem_range.2 (by omega), (mem_cmb _ _ _ _).2 ⟨rfl, h2⟩⟩
/-- What is sorted is the dictionary's list. -/
theorem sorted_pre (n M : Nat) (q : List Int → Bool) (L : List (List Int)) (hp : L.Perm ((byMany n M).filter q)) (hs : L.Pairwise (fun a b => llt b a = false)) : L = (pre n M 0).filter q := by
  refine List.Perm.eq_of_pairwise (le := fun a b => llt b a = false) (fun a b _ _ h1 h2 => llt_total h2 h1) hs ?_ (hp.trans ((byMany_perm n M).filter q))
  refine ((pre_asc n M 0).filter _).imp (fun {a b} h => ?_)
  cases h2 : llt b a with
  | false => rfl
  | true => have := llt_trans h h2; rw [llt_irr] at this; cases this
/-- The visitor of Sets. -/
def setS (q : List Int → Bool) (st : List (List Int)) (l : List Int) : List (List Int) × Bool := let st' := if q l = true then st ++ [l] else st; (st', decide (st'.length > 2000))
def setG (q : List Int → Bool) : List (List Int) → List (List Int) → List (List Int) × Bool
  | st, [] => (st, false)
  | st, y :: ys => if (setS q st y).2 = true then ((setS q st y).1, true) else setG q (setS q st y).1 ys
theorem setG_append (q : List Int → Bool) : ∀ (a st b : List (List Int)), setG q st (a ++ b) = if (setG q st a).2 = true then ((setG q st a).1, true) else setG q (setG q st a).1 b
  | [], st, b => by simp [setG]
  | y :: a, st, b => by
    simp only [List.cons_append, setG]
    split
    · simp
    · exact setG_append q a _ b
theorem subs_setG (q : List Int → Bool) (n : Nat) : ∀ (m : Nat) (st : List (List Int)) (l : List Int) (i : Nat),
    subs (fun st l => some (setS q st l)) n m st l i = some (setG q st ((cmb n m i).map (l ++ ·))) := by
  intro m
  induction m with
  | zero =>
    intro st l i
    show some (setS q st l) = _
    simp only [cmb, List.map_cons, List.map_nil, List.append_nil, setG]
    cases h : (setS q st l).2 with
    | true => rw [if_pos rfl, ← h]
    | false => rw [if_neg (by decide), ← h]
  | succ m ih =>
    intro st l i
    show (List.range' i (n - i)).foldlM _ (st, false) = _
    have key : ∀ (L : List Nat) (st : List (List Int)), L.foldlM (fun (p : List (List Int) × Bool) (u : Nat) => if p.2 = true then some p else subs (fun st l => some (setS q st l)) n m p.1 (l ++ [(u : Int)]) (u + 1)) (st, false) = some (setG q st ((L.flatMap fun u => (cmb n m (u + 1)).map ((u : Int) :: ·)).map (l ++ ·))) := by
      intro L
      induction L with
      | nil => intro st; rfl
      | cons u L ihL =>
        intro st
        rw [List.foldlM_cons]
        have h1 := ih st (l ++ [(u : Int)]) (u + 1)
        refine (congrArg (fun o => Option.bind o (fun init => L.foldlM (fun (p : List (List Int) × Bool) (u : Nat) => if p.2 = true then some p else subs (fun st l => some (setS q st l)) n m p.1 (l ++ [(u : Int)]) (u + 1)) init)) h1).trans ?_
        rw [List.flatMap_cons, List.map_append, setG_append, List.map_map]
        have e : ((fun y => l ++ y) ∘ fun y => (u : Int) :: y) = fun y => (l ++ [(u : Int)]) ++ y := by funext y; simp
        rw [e]
        show L.foldlM _ (setG q st ((cmb n m (u + 1)).map ((l ++ [(u : Int)]) ++ ·))) = _
        cases hg : setG q st ((cmb n m (u + 1)).map ((l ++ [(u : Int)]) ++ ·)) with
        | mk s b =>
          cases b with
          | true => exact foldlM_true (f := fun (s : List (List Int)) (u : Nat) => subs (fun st l => some (setS q st l)) n m s (l ++ [(u : Int)]) (u + 1)) L s
          | false => exact ihL s
    exact key _ _
theorem setG_few (q : List Int → Bool) : ∀ (ys st : List (List Int)), (st ++ ys.filter q).length ≤ 2000 → setG q st ys = (st ++ ys.filter q, false)
  | [], st, h => by simp [setG]
  | y :: ys, st, h => by
    have hst : (setS q st y).1 ++ ys.filter q = st ++ (y :: ys).filter q := by
      unfold setS
      cases hq : q y <;> simp [hq]
    have hl : (setS q st y).2 = false := by
      unfold setS
      simp only [decide_eq_false_iff_not]
      have h' : ((if q y = true then st ++ [y] else st) ++ ys.filter q).length ≤ 2000 := by rw [← hst] at h; exact h
      rw [List.length_append] at h'
      omega
    simp only [setG]
    rw [hl, if_neg (by decide), setG_few q ys _ (by rw [hst]; exact h), hst]
theorem setG_many (q : List Int → Bool) : ∀ (ys st : List (List Int)), st.length ≤ 2000 → ¬ (st ++ ys.filter q).length ≤ 2000 → (setG q st ys).2 = true
  | [], st, h0, h => by simp at h; omega
  | y :: ys, st, h0, h => by
    have hst : (setS q st y).1 ++ ys.filter q = st ++ (y :: ys).filter q := by
      unfold setS
      cases hq : q y <;> simp [hq]
    simp only [setG]
    cases hl : (setS q st y).2 with
    | true => rw [if_pos rfl]
    | false =>
      rw [if_neg (by decide)]
      refine setG_many q ys _ ?_ (by rw [hst]; exact h)
      unfold setS at hl ⊢
      simp only [decide_eq_false_iff_not] at hl
      dsimp only
      omega
end Go.Proofs.YtglajokjiphafaaDoor.P

set_option linter.unusedSimpArgs false
set_option linter.unusedVariables false
namespace Go.Proofs.YtglajokjiphafaaDoor.Kit

def ins (x : Int) : List Int → List Int
  | [] => [x]
  | y :: ys => if x ≤ y then x :: y :: ys else y :: ins x ys
def isort : List Int → List Int
  | [] => []
  | x :: xs => ins x (isort xs)
theorem ins_perm (x : Int) (l : List Int) : (ins x l).Perm (x :: l) := by
  induction l with
  | nil => exact List.Perm.refl _
  | cons y ys ih =>
    unfold ins
    split
    · exact List.Perm.refl _
    · exact (List.Perm.cons y ih).trans (List.Perm.swap x y ys)
theorem isort_perm (l : List Int) : (isort l).Perm l := by
  induction l with
  | nil => exact List.Perm.refl _
  | cons x xs ih => exact (ins_perm x (isort xs)).trans (List.Perm.cons x ih)
theorem isort_length (l : List Int) : (isort l).length = l.length := (isort_perm l).length_eq
theorem mem_isort {x : Int} {l : List Int} : x ∈ isort l ↔ x ∈ l := (isort_perm l).mem_iff
theorem ins_sorted (x : Int) (l : List Int) (h : l.Pairwise (· ≤ ·)) : (ins x l).Pairwise (· ≤ ·) := by
  induction l with
  | nil => simp [ins]
  | cons y ys ih =>
    unfold ins
    rw [List.pairwise_cons] at h
    split
    · rename_i hxy
      refine List.pairwise_cons.2 ⟨fun z hz => ?_, List.pairwise_cons.2 h⟩
      rcases List.mem_cons.1 hz with rfl | hz
      · exact hxy
      · have := h.1 z hz
        omega
    · refine List.pairwise_cons.2 ⟨fun z hz => ?_, ih h.2⟩
      rcases List.mem_cons.1 ((ins_perm x ys).mem_iff.1 hz) with rfl | hz
      · omega
      · exact h.1 z hz
theorem isort_sorted (l : List Int) : (isort l).Pairwise (· ≤ ·) := by
  induction l with
  | nil => exact List.Pairwise.nil
  | cons x xs ih => exact ins_sorted x _ ih
/-- Two sorted lists of the same numbers are one. -/
theorem sorted_uniq : ∀ {a b : List Int}, a.Perm b → a.Pairwise (· ≤ ·) → b.Pairwise (· ≤ ·) → a = b := by
  intro a
  induction a with
  | nil => intro b h _ _; exact h.nil_eq
  | cons x xs ih =>
    intro b h ha hb
    cases b with
    | nil => exact absurd h.length_eq (by simp)
    | cons y ys =>
      rw [List.pairwise_cons] at ha hb
      have hxy : x = y := by
        have h1 : x ∈ y :: ys := h.mem_iff.1 List.mem_cons_self
        have h2 : y ∈ x :: xs := h.mem_iff.2 List.mem_cons_self
        rcases List.mem_cons.1 h1 with h1 | h1
        · exact h1
        · rcases List.mem_cons.1 h2 with h2 | h2
          · exact h2.symm
          · have := ha.1 y h2
            have := hb.1 x h1
            omega
      subst hxy
      rw [ih (List.Perm.cons_inv h) ha.2 hb.2]
theorem isort_of_sorted {l : List Int} (h : l.Pairwise (· ≤ ·)) : isort l = l := sorted_uniq (isort_perm l) (isort_sorted l) h
theorem mergeSort_isort (l : List Int) : (l.mergeSort fun x y => decide (x ≤ y)) = isort l := by
  refine sorted_uniq ((List.mergeSort_perm l _).trans (isort_perm l).symm) ?_ (isort_sorted l)
  have h := List.pairwise_mergeSort (le := fun x y : Int => decide (x ≤ y)) (fun a b c h1 h2 => by simp at *; omega) (fun a b => by simp; omega) l
  exact h.imp (fun h => by simpa using h)

end Go.Proofs.YtglajokjiphafaaDoor.Kit

namespace Go.Proofs.YtglajokjiphafaaDoor.P
open Go.RowKit Go.Proofs.YtglajokjiphafaaDoorW.PrintWords Go.Proofs.YtglajokjiphafaaDoorW.PrintLast Go.Proofs.YtglajokjiphafaaDoorW.PrintMore
open Go.Sort
set_option linter.unusedSimpArgs false

theorem reps_nums {k : IntKind} {xs : List Int} {cs : List Value} (h : Reps (fun (x : Int) cs => cs = [Value.int k x]) 1 xs cs) : cs = nums k xs := by
  obtain ⟨hl, he⟩ := h
  apply List.ext_getElem?
  intro j
  by_cases hj : j < xs.length
  · have h1 := he j xs[j] (List.getElem?_eq_getElem hj)
    rw [Nat.mul_one] at h1
    have h2 : cs[j]? = ((cs.drop j).take 1)[0]? := by simp
    rw [h2, h1]
    simp [nums, List.getElem?_eq_getElem hj]
  · rw [List.getElem?_eq_none (by omega), List.getElem?_eq_none (by rw [nums_length]; omega)]
theorem reps_of_nums (k : IntKind) (xs : List Int) : Reps (fun (x : Int) cs => cs = [Value.int k x]) 1 xs (nums k xs) := by
  refine ⟨by rw [nums_length, Nat.mul_one], fun j p hj => ?_⟩
  have hlt : j < xs.length := by
    rcases Nat.lt_or_ge j xs.length with h | h
    · exact h
    · rw [List.getElem?_eq_none h] at hj; cases hj
  rw [List.getElem?_eq_getElem hlt] at hj
  injection hj with hj
  rw [Nat.mul_one]
  apply List.ext_getElem?
  intro i
  cases i with
  | zero => simp [nums, List.getElem?_eq_getElem hlt, hj]
  | succ i =>
    simp
    omega
theorem R_int_own {k : IntKind} {e base : Nat} {ok : Nat → Prop} {w : World} {v : Value} {xs : List Int} (h : (Kd.int k).R e w base ok v xs) : (∀ j, v.ownBlock = some j → ok j) ∧ w.ownsRow base e 1 v xs.length (nums k xs) := by
  obtain ⟨h0, inner, ho, hr⟩ := h
  have : inner = nums k xs := reps_nums hr
  subst this
  exact ⟨h0, ho⟩
theorem R_int_mk {k : IntKind} {e base : Nat} {ok : Nat → Prop} {w : World} {v : Value} {xs : List Int} (h0 : ∀ j, v.ownBlock = some j → ok j) (ho : w.ownsRow base e 1 v xs.length (nums k xs)) : (Kd.int k).R e w base ok v xs :=
  ⟨h0, nums k xs, ho, reps_of_nums k xs⟩

/-- A row of the call's own, as the sort's contract sees it. -/
theorem holds_of_own {k : IntKind} {base g cap e : Nat} {w : World} {xs : List Int} (h : w.ownsRow base e 1 (.slice (some ⟨g, 0, none⟩) xs.length cap) xs.length (nums k xs)) :
    Holds (Value.int k) w g 0 xs.toArray ∧ g < w.heap.size := by
  obtain ⟨hl, h⟩ := h
  rcases h with ⟨h1, _⟩ | ⟨g', cap', cur, h1, hb, hh, hn, hc, hs, ht⟩
  · cases h1
  · injection h1 with h1 h2 h3
    injection h1 with h1
    injection h1 with h1
    subst h1
    refine ⟨fun j hj => ?_, (Array.getElem?_eq_some_iff.1 hh).1⟩
    simp only [List.size_toArray] at hj
    rw [Nat.mul_one] at ht
    constructor
    · have h4 : cur.toList[j]? = (nums k xs)[j]? := by
        rw [← ht, List.getElem?_take, if_pos hj]
      simp only [World.cell?, hh, Nat.zero_add]
      simp only [Option.isSome_none, Bool.false_eq_true, if_false]
      rw [← Array.getElem?_toList, h4]
      simp [nums, List.getElem?_eq_getElem hj, hj]
    · simp [World.frozen?, hh]

/-- What stands behind a row that was laid anew. -/
theorem own_put_row {k : IntKind} {base g cap e m : Nat} {os : Array Obj} {w : World} {xs ys : List Int} (hlen : ys.length = xs.length)
    (h : w.ownsRow base e 1 (.slice (some ⟨g, 0, none⟩) xs.length cap) xs.length (nums k xs)) :
    (grow (putRow (Value.int k) (Sort.ahead w m) g 0 ys.toArray) os).ownsRow base e 1 (.slice (some ⟨g, 0, none⟩) xs.length cap) ys.length (nums k ys) := by
  obtain ⟨hl, h⟩ := h
  rcases h with ⟨h1, _⟩ | ⟨g', cap', cur, h1, hb, hh, hn, hc, hs, ht⟩
  · cases h1
  · injection h1 with h1 h2 h3
    injection h1 with h1
    injection h1 with h1
    subst h1 h3
    have hg : g < w.heap.size := (Array.getElem?_eq_some_iff.1 hh).1
    refine ⟨by rw [nums_length, Nat.mul_one], .inr ⟨g, cap, putCells (Value.int k) 0 ys.toArray cur, by rw [hlen], hb, ?_, by omega, hc, by simp [putCells, hs], ?_⟩⟩
    · rw [heap_grow_old _ _ (by simpa using hg)]
      simp only [putRow, mapBlock, heap_ahead, Array.getElem?_modify, if_true, hh, Option.map_some, onCells]
    · rw [Nat.mul_one]
      apply List.ext_getElem?
      intro j
      rw [List.getElem?_take]
      by_cases hj : j < ys.length
      · have hjc : j < cur.size := by omega
        rw [if_pos hj]
        simp only [putCells, Array.getElem?_toList, Array.getElem?_mapIdx, Array.getElem?_eq_getElem hjc, Option.map_some, Nat.zero_le, true_and, Nat.zero_add, List.size_toArray, if_pos hj, Nat.sub_zero]
        simp [nums, List.getElem?_eq_getElem hj, hj]
      · rw [if_neg hj, List.getElem?_eq_none (by rw [nums_length]; omega)]

theorem below_put_row {k : IntKind} {B g m : Nat} {os : Array Obj} {w0 w : World} {d : Array Int} (hB : Below B w0 w) (hg : B ≤ g) (hlt : B ≤ w.heap.size) : Below B w0 (grow (putRow (Value.int k) (Sort.ahead w m) g 0 d) os) := by
  refine ⟨hB.os, hB.tape, hB.output, ?_, fun i hi => ?_⟩
  · have := hB.size
    simp [Sort.ahead]
    omega
  · rw [heap_grow_old _ _ (by simp; omega)]
    simp only [putRow, mapBlock, heap_ahead, Array.getElem?_modify]
    rw [if_neg (by omega)]
    exact hB.block i hi
theorem kept_put_row {k : IntKind} {g m : Nat} {os : Array Obj} {w : World} {d : Array Int} {S : Nat → Prop} (hS : S g) : Kept w (grow (putRow (Value.int k) (Sort.ahead w m) g 0 d) os) S := by
  refine ⟨by simp [Sort.ahead], fun i hi hn => ?_⟩
  rw [heap_grow_old _ _ (by simpa using hi)]
  simp only [putRow, mapBlock, heap_ahead, Array.getElem?_modify]
  rw [if_neg (fun e : g = i => hn (e ▸ hS))]

def slices_Sort_int_int.f (l0 : List Int) : Option (List Int) := if l0.length < 4611686018427387904 then some (Kit.isort l0) else none
theorem slices_Sort_int_int.calls (P0_ : Nat → Prop) (u9000_ : Value) (l0 : List Int) (r : List Int) (w0 w : World) (hB : Below w0.heap.size w0 w) (ho0 : Kd.R (Kd.int .i64) 3 w w0.heap.size P0_ u9000_ l0) (h : slices_Sort_int_int.f l0 = some r) :
    Calls Tryd.prog 71 #[u9000_] w fun e w' => e = .returned (.tuple #[]) ∧ Kd.R (Kd.int .i64) 3 w' w0.heap.size (fun k_ => (P0_ k_ ∨ w.heap.size ≤ k_)) u9000_ r ∧ Below w0.heap.size w0 w' ∧ Kept w w' (fun k_ => P0_ k_) := by
  unfold slices_Sort_int_int.f at h
  split at h
  case isFalse => cases h
  rename_i hsz
  injection h with h
  subst h
  obtain ⟨h0, ho⟩ := R_int_own ho0
  have ho' := ho
  rcases ho'.2 with ⟨rfl, hn⟩ | ⟨g, cap, cur, rfl, hb, hh, hn, hc, hs, ht⟩
  · have : l0 = [] := List.eq_nil_of_length_eq_zero hn
    subst this
    refine (Tryd.slices_Sort_int_none none 0 w).mono ?_
    rintro e w' ⟨rfl, rfl⟩
    exact ⟨rfl, Kd.R_nil _ _ _ _ _, hB, Kept.refl _ _⟩
  · obtain ⟨hH, hg⟩ := holds_of_own ho
    refine (Tryd.slices_Sort_int g 0 cap l0 w hH hg hsz).mono ?_
    rintro e w' ⟨rfl, m, os, rfl⟩
    rw [Kit.mergeSort_isort]
    refine ⟨rfl, R_int_mk (fun j hj => .inl (h0 j hj)) ?_, below_put_row hB hb hB.size, kept_put_row (h0 g rfl)⟩
    exact own_put_row (Kit.isort_length l0) ho

end Go.Proofs.YtglajokjiphafaaDoor.P

namespace Go.Proofs.YtglajokjiphafaaDoor.P
open Go.RowKit Go.Proofs.YtglajokjiphafaaDoorW.PrintWords Go.Proofs.YtglajokjiphafaaDoorW.PrintLast Go.Proofs.YtglajokjiphafaaDoorW.PrintMore
attribute [local go_sem] max2_int min2_int max_two min_two max_three min_three max_four min_four   -- for this text's walks alone
set_option linter.unusedVariables false
set_option linter.unusedSimpArgs false

/-! ### cmp_isNaN_int: function 105 -/
def cmp_isNaN_int.f (a0 : Int) : Option (Bool) := some (a0 != a0)
set_option maxHeartbeats 8000000 in
set_option maxRecDepth 100000 in
theorem cmp_isNaN_int.calls (a0 : Int) (r : Bool) (w : World) (h : cmp_isNaN_int.f a0 = some r) :
    Calls Tryd.prog 105 #[.int .i64 a0] w fun e w' => e = .returned (.bool r) ∧ Drawn0 w w' := by
  have H : (some (a0 != a0)) = some r := h
  clear h
  obtain rfl := Option.some.inj H
  go_enter Tryd.func105, Tryd.ntmps105
  go_wp2
  go_ret
  exact ⟨by first | rfl | (simp; done) | (simp [*]; done), by repeat (first | exact Drawn0.refl _ | apply Drawn0.step)⟩

end Go.Proofs.YtglajokjiphafaaDoor.P

namespace Go.Proofs.YtglajokjiphafaaDoor.P
open Go.RowKit Go.Proofs.YtglajokjiphafaaDoorW.PrintWords Go.Proofs.YtglajokjiphafaaDoorW.PrintLast Go.Proofs.YtglajokjiphafaaDoorW.PrintMore
attribute [local go_sem] max2_int min2_int max_two min_two max_three min_three max_four min_four   -- for this text's walks alone
set_option linter.unusedVariables false
set_option linter.unusedSimpArgs false

/-! ### cmp_Compare_int: function 90 -/
def cmp_Compare_int.f (a0 : Int) (a1 : Int) : Option (Int) := (cmp_isNaN_int.f a0).bind fun t116 => ((cmp_isNaN_int.f a1).bind fun t117 => (if t116 = true then (if t117 = true then (some 0) else (some (-1))) else (if t117 = true then (some 1) else (if a0 < a1 then (some (-1)) else (if a0 > a1 then (some 1) else (some 0))))))
set_option maxHeartbeats 8000000 in
set_option maxRecDepth 100000 in
theorem cmp_Compare_int.calls (a0 : Int) (a1 : Int) (r : Int) (w : World) (h : cmp_Compare_int.f a0 a1 = some r) :
    Calls Tryd.prog 90 #[.int .i64 a0, .int .i64 a1] w fun e w' => e = .returned (.int .i64 r) ∧ Drawn0 w w' := by
  have H : ((cmp_isNaN_int.f a0).bind fun t116 => ((cmp_isNaN_int.f a1).bind fun t117 => (if t116 = true then (if t117 = true then (some 0) else (some (-1))) else (if t117 = true then (some 1) else (if a0 < a1 then (some (-1)) else (if a0 > a1 then (some 1) else (some 0))))))) = some r := h
  clear h
  replace H := Option.bind_eq_some_iff.mp H
  obtain ⟨t116, A30, H⟩ := H
  replace H : ((cmp_isNaN_int.f a1).bind fun t117 => (if t116 = true then (if t117 = true then (some 0) else (some (-1))) else (if t117 = true then (some 1) else (if a0 < a1 then (some (-1)) else (if a0 > a1 then (some 1) else (some 0)))))) = some r := H
  have A3 := Aside0.mk A30
  clear A30
  replace H := Option.bind_eq_some_iff.mp H
  obtain ⟨t117, A40, H⟩ := H
  replace H : (if t116 = true then (if t117 = true then (some 0) else (some (-1))) else (if t117 = true then (some 1) else (if a0 < a1 then (some (-1)) else (if a0 > a1 then (some 1) else (some 0))))) = some r := H
  have A4 := Aside0.mk A40
  clear A40
  by_cases c5 : t116 = true
  · subst c5
    have H1 : (if t117 = true then (some 0) else (some (-1))) = some r := by rw [if_pos rfl] at H; exact H
    clear H
    have H := H1
    clear H1
    by_cases c6 : t117 = true
    · subst c6
      have H1 : (some 0) = some r := by rw [if_pos rfl] at H; exact H
      clear H
      have H := H1
      clear H1
      obtain rfl := Option.some.inj H
      go_enter Tryd.func90, Tryd.ntmps90
      go_wp2_with (first | ((with_reducible refine gate_callee (f := 105) rfl ?_); refine goesL_ (some 8) rfl rfl Tryd.func105 (by kernel_rfl) rfl #[.int .i64 a0] rfl (by (try simp only [List.map_toArray, List.map_cons, List.map_nil]); first | done | rfl | (simp only [List.length_drop, List.length_take]; rfl)) ?_; (with_reducible refine (cmp_isNaN_int.calls a0 true _ A3.out).mono ?_); rintro e w' ⟨rfl, ⟨nd, rfl⟩⟩; refine ⟨_, rfl, ?_⟩) | ((with_reducible refine gate_callee (f := 105) rfl ?_); refine goesL_ (some 10) rfl rfl Tryd.func105 (by kernel_rfl) rfl #[.int .i64 a1] rfl (by (try simp only [List.map_toArray, List.map_cons, List.map_nil]); first | done | rfl | (simp only [List.length_drop, List.length_take]; rfl)) ?_; (with_reducible refine (cmp_isNaN_int.calls a1 true _ A4.out).mono ?_); rintro e w' ⟨rfl, ⟨nd, rfl⟩⟩; refine ⟨_, rfl, ?_⟩))
      go_ret
      exact ⟨by first | rfl | (simp; done) | (simp [*]; done), by repeat (first | exact Drawn0.refl _ | apply Drawn0.step)⟩
    · replace c6 := Bool.eq_false_iff.mpr c6
      subst c6
      have H1 : (some (-1)) = some r := by rw [if_neg (show ¬ (false = true) by decide)] at H; exact H
      clear H
      have H := H1
      clear H1
      obtain rfl := Option.some.inj H
      go_enter Tryd.func90, Tryd.ntmps90
      go_wp2_with (first | ((with_reducible refine gate_callee (f := 105) rfl ?_); refine goesL_ (some 8) rfl rfl Tryd.func105 (by kernel_rfl) rfl #[.int .i64 a0] rfl (by (try simp only [List.map_toArray, List.map_cons, List.map_nil]); first | done | rfl | (simp only [List.length_drop, List.length_take]; rfl)) ?_; (with_reducible refine (cmp_isNaN_int.calls a0 true _ A3.out).mono ?_); rintro e w' ⟨rfl, ⟨nd, rfl⟩⟩; refine ⟨_, rfl, ?_⟩) | ((with_reducible refine gate_callee (f := 105) rfl ?_); refine goesL_ (some 10) rfl rfl Tryd.func105 (by kernel_rfl) rfl #[.int .i64 a1] rfl (by (try simp only [List.map_toArray, List.map_cons, List.map_nil]); first | done | rfl | (simp only [List.length_drop, List.length_take]; rfl)) ?_; (with_reducible refine (cmp_isNaN_int.calls a1 false _ A4.out).mono ?_); rintro e w' ⟨rfl, ⟨nd, rfl⟩⟩; refine ⟨_, rfl, ?_⟩))
      go_ret
      exact ⟨by first | rfl | (simp; done) | (simp [*]; done), by repeat (first | exact Drawn0.refl _ | apply Drawn0.step)⟩
  · replace c5 := Bool.eq_false_iff.mpr c5
    subst c5
    have H1 : (if t117 = true then (some 1) else (if a0 < a1 then (some (-1)) else (if a0 > a1 then (some 1) else (some 0)))) = some r := by rw [if_neg (show ¬ (false = true) by decide)] at H; exact H
    clear H
    have H := H1
    clear H1
    by_cases c7 : t117 = true
    · subst c7
      have H1 : (some 1) = some r := by rw [if_pos rfl] at H; exact H
      clear H
      have H := H1
      clear H1
      obtain rfl := Option.some.inj H
      go_enter Tryd.func90, Tryd.ntmps90
      go_wp2_with (first | ((with_reducible refine gate_callee (f := 105) rfl ?_); refine goesL_ (some 8) rfl rfl Tryd.func105 (by kernel_rfl) rfl #[.int .i64 a0] rfl (by (try simp only [List.map_toArray, List.map_cons, List.map_nil]); first | done | rfl | (simp only [List.length_drop, List.length_take]; rfl)) ?_; (with_reducible refine (cmp_isNaN_int.calls a0 false _ A3.out).mono ?_); rintro e w' ⟨rfl, ⟨nd, rfl⟩⟩; refine ⟨_, rfl, ?_⟩) | ((with_reducible refine gate_callee (f := 105) rfl ?_); refine goesL_ (some 10) rfl rfl Tryd.func105 (by kernel_rfl) rfl #[.int .i64 a1] rfl (by (try simp only [List.map_toArray, List.map_cons, List.map_nil]); first | done | rfl | (simp only [List.length_drop, List.length_take]; rfl)) ?_; (with_reducible refine (cmp_isNaN_int.calls a1 true _ A4.out).mono ?_); rintro e w' ⟨rfl, ⟨nd, rfl⟩⟩; refine ⟨_, rfl, ?_⟩))
      go_ret
      exact ⟨by first | rfl | (simp; done) | (simp [*]; done), by repeat (first | exact Drawn0.refl _ | apply Drawn0.step)⟩
    · replace c7 := Bool.eq_false_iff.mpr c7
      subst c7
      have H1 : (if a0 < a1 then (some (-1)) else (if a0 > a1 then (some 1) else (some 0))) = some r := by rw [if_neg (show ¬ (false = true) by decide)] at H; exact H
      clear H
      have H := H1
      clear H1
      by_cases c8 : a0 < a1
      · rw [if_pos c8] at H
        have c8b0 : decide (a0 < a1) = true := decide_eq_true c8
        clear c8
        obtain rfl := Option.some.inj H
        go_enter Tryd.func90, Tryd.ntmps90
        go_wp2_with (first | ((with_reducible refine gate_callee (f := 105) rfl ?_); refine goesL_ (some 8) rfl rfl Tryd.func105 (by kernel_rfl) rfl #[.int .i64 a0] rfl (by (try simp only [List.map_toArray, List.map_cons, List.map_nil]); first | done | rfl | (simp only [List.length_drop, List.length_take]; rfl)) ?_; (with_reducible refine (cmp_isNaN_int.calls a0 false _ A3.out).mono ?_); rintro e w' ⟨rfl, ⟨nd, rfl⟩⟩; refine ⟨_, rfl, ?_⟩) | ((with_reducible refine gate_callee (f := 105) rfl ?_); refine goesL_ (some 10) rfl rfl Tryd.func105 (by kernel_rfl) rfl #[.int .i64 a1] rfl (by (try simp only [List.map_toArray, List.map_cons, List.map_nil]); first | done | rfl | (simp only [List.length_drop, List.length_take]; rfl)) ?_; (with_reducible refine (cmp_isNaN_int.calls a1 false _ A4.out).mono ?_); rintro e w' ⟨rfl, ⟨nd, rfl⟩⟩; refine ⟨_, rfl, ?_⟩))
        go_ret
        exact ⟨by first | rfl | (simp; done) | (simp [*]; done), by repeat (first | exact Drawn0.refl _ | apply Drawn0.step)⟩
      · rw [if_neg c8] at H
        have c8b0 : decide (a0 < a1) = false := decide_eq_false c8
        clear c8
        by_cases c9 : a0 > a1
        · rw [if_pos c9] at H
          have c9b0 : decide (a1 < a0) = true := decide_eq_true c9
          clear c9
          obtain rfl := Option.some.inj H
          go_enter Tryd.func90, Tryd.ntmps90
          go_wp2_with (first | ((with_reducible refine gate_callee (f := 105) rfl ?_); refine goesL_ (some 8) rfl rfl Tryd.func105 (by kernel_rfl) rfl #[.int .i64 a0] rfl (by (try simp only [List.map_toArray, List.map_cons, List.map_nil]); first | done | rfl | (simp only [List.length_drop, List.length_take]; rfl)) ?_; (with_reducible refine (cmp_isNaN_int.calls a0 false _ A3.out).mono ?_); rintro e w' ⟨rfl, ⟨nd, rfl⟩⟩; refine ⟨_, rfl, ?_⟩) | ((with_reducible refine gate_callee (f := 105) rfl ?_); refine goesL_ (some 10) rfl rfl Tryd.func105 (by kernel_rfl) rfl #[.int .i64 a1] rfl (by (try simp only [List.map_toArray, List.map_cons, List.map_nil]); first | done | rfl | (simp only [List.length_drop, List.length_take]; rfl)) ?_; (with_reducible refine (cmp_isNaN_int.calls a1 false _ A4.out).mono ?_); rintro e w' ⟨rfl, ⟨nd, rfl⟩⟩; refine ⟨_, rfl, ?_⟩))
          go_ret
          exact ⟨by first | rfl | (simp; done) | (simp [*]; done), by repeat (first | exact Drawn0.refl _ | apply Drawn0.step)⟩
        · rw [if_neg c9] at H
          have c9b0 : decide (a1 < a0) = false := decide_eq_false c9
          clear c9
          obtain rfl := Option.some.inj H
          go_enter Tryd.func90, Tryd.ntmps90
          go_wp2_with (first | ((with_reducible refine gate_callee (f := 105) rfl ?_); refine goesL_ (some 8) rfl rfl Tryd.func105 (by kernel_rfl) rfl #[.int .i64 a0] rfl (by (try simp only [List.map_toArray, List.map_cons, List.map_nil]); first | done | rfl | (simp only [List.length_drop, List.length_take]; rfl)) ?_; (with_reducible refine (cmp_isNaN_int.calls a0 false _ A3.out).mono ?_); rintro e w' ⟨rfl, ⟨nd, rfl⟩⟩; refine ⟨_, rfl, ?_⟩) | ((with_reducible refine gate_callee (f := 105) rfl ?_); refine goesL_ (some 10) rfl rfl Tryd.func105 (by kernel_rfl) rfl #[.int .i64 a1] rfl (by (try simp only [List.map_toArray, List.map_cons, List.map_nil]); first | done | rfl | (simp only [List.length_drop, List.length_take]; rfl)) ?_; (with_reducible refine (cmp_isNaN_int.calls a1 false _ A4.out).mono ?_); rintro e w' ⟨rfl, ⟨nd, rfl⟩⟩; refine ⟨_, rfl, ?_⟩))
          go_ret
          exact ⟨by first | rfl | (simp; done) | (simp [*]; done), by repeat (first | exact Drawn0.refl _ | apply Drawn0.step)⟩

end Go.Proofs.YtglajokjiphafaaDoor.P

namespace Go.Proofs.YtglajokjiphafaaDoor.P
open Go.RowKit Go.Proofs.YtglajokjiphafaaDoorW.PrintWords Go.Proofs.YtglajokjiphafaaDoorW.PrintLast Go.Proofs.YtglajokjiphafaaDoorW.PrintMore
attribute [local go_sem] max2_int min2_int max_two min_two max_three min_three max_four min_four   -- for this text's walks alone
set_option linter.unusedVariables false
set_option linter.unusedSimpArgs false

/-! ### slices_Compare_int_int: function 67 -/
def slices_Compare_int_int.l0 : Nat → List Int → List Int → List Int → Int → Int → Option (Int)
  | 0, _, _, _, _, _ => none
  | k + 1, x0, x1, x9, x10, x11 => if x11 < x10 then (if 0 ≤ x11 then (if x11 < (x9.length : Int) then (if x11 ≥ (x1.length : Int) then (some 1) else (if x11 < (x1.length : Int) then ((cmp_Compare_int.f (rd x9 x11) (rd x1 x11)).bind fun t120 => (if t120 = 0 then (slices_Compare_int_int.l0 k x0 x1 x9 x10 (wrap64 (x11 + 1))) else (some t120))) else (none))) else (none)) else (none)) else (if (x0.length : Int) < (x1.length : Int) then (some (-1)) else (some 0))
def slices_Compare_int_int.f (k : Nat) (l0 : List Int) (l1 : List Int) : Option (Int) := slices_Compare_int_int.l0 k l0 l1 l0 (l0.length : Int) 0
theorem slices_Compare_int_int.mono_l : ∀ k, (∀ y0 y1 y2 y3 y4, LeO (slices_Compare_int_int.l0 k y0 y1 y2 y3 y4) (slices_Compare_int_int.l0 (k + 1) y0 y1 y2 y3 y4))
  | 0 => fun _ _ _ _ _ r h => by simp [slices_Compare_int_int.l0] at h
  | k + 1 => by
    have ih0 := slices_Compare_int_int.mono_l k
    · intro y0 y1 y2 y3 y4
      unfold slices_Compare_int_int.l0
      repeat' first
      | (with_reducible exact ih0 _ _ _ _ _)
      | (with_reducible exact LeO.refl _)
      | (with_reducible exact LeO.none _)
      | (with_reducible refine LeO.ite ?_ ?_)
      | (with_reducible refine LeO.bind ?_ (fun _ => ?_))
      | exact ih0 _ _ _ _ _
      | exact LeO.none _
      | refine LeO.ite ?_ ?_
      | refine LeO.bind ?_ (fun _ => ?_)
theorem slices_Compare_int_int.mono : ∀ a0 a1 k, LeO (slices_Compare_int_int.f k a0 a1) (slices_Compare_int_int.f (k + 1) a0 a1) := by
  intro a0 a1 k
  have ih0 := slices_Compare_int_int.mono_l k
  unfold slices_Compare_int_int.f
  repeat' first
      | (with_reducible exact ih0 _ _ _ _ _)
      | (with_reducible exact LeO.refl _)
      | (with_reducible exact LeO.none _)
      | (with_reducible refine LeO.ite ?_ ?_)
      | (with_reducible refine LeO.bind ?_ (fun _ => ?_))
      | exact ih0 _ _ _ _ _
      | exact LeO.none _
      | refine LeO.ite ?_ ?_
      | refine LeO.bind ?_ (fun _ => ?_)
set_option maxHeartbeats 8000000 in
set_option maxRecDepth 100000 in
theorem slices_Compare_int_int.calls (k : Nat) (A0 : Option Addr) (c0 : Nat) (l0 : List Int) (A1 : Option Addr) (c1 : Nat) (l1 : List Int) (r : Int) (w : World) (hr0 : Kd.C (Kd.int .i64) w A0 l0.length l0) (hc0 : l0.length ≤ c0) (hr1 : Kd.C (Kd.int .i64) w A1 l1.length l1) (hc1 : l1.length ≤ c1) (h : slices_Compare_int_int.f k l0 l1 = some r) :
    Calls Tryd.prog 67 #[.slice A0 l0.length c0, .slice A1 l1.length c1] w fun e w' => e = .returned (.int .i64 r) ∧ Drawn0 w w' := by
  have HR0 := Aside0.mk hr0
  have HC0 := Aside0.mk hc0
  clear hr0 hc0
  have HR1 := Aside0.mk hr1
  have HC1 := Aside0.mk hc1
  clear hr1 hc1
  have H : (slices_Compare_int_int.l0 k l0 l1 l0 (l0.length : Int) 0) = some r := h
  clear h
  have H' := Aside0.mk H
  clear H
  go_enter Tryd.func67, Tryd.ntmps67
  go_wp2
  go_loopg [11] k (fun kq v11 w' => ∃ (x11_1 : Int), v11 = .int .i64 x11_1 ∧ Aside0 (slices_Compare_int_int.l0 kq l0 l1 l0 (l0.length : Int) x11_1 = some r) ∧ Aside0 (kq ≤ k) ∧ Drawn0 w w')
  case atStart => exact ⟨(0), (by first | rfl | (simp; done) | (simp [*]; done)), H', ⟨Nat.le_refl _⟩, by repeat (first | exact Drawn0.refl _ | apply Drawn0.step)⟩
  case round =>
    clear H'
    try clear c1
    try clear p2
    obtain ⟨x11_1, rfl, HA, HK1, ⟨m1, rfl⟩⟩ := hrel
    cases gk with
    | zero => exact absurd HA.out (by simp [slices_Compare_int_int.l0])
    | succ k1 =>
      have H := HA.out
      clear HA
      simp only [slices_Compare_int_int.l0] at H
      by_cases c3 : x11_1 < (l0.length : Int)
      · rw [if_pos c3] at H
        have c3b0 : decide (x11_1 < (l0.length : Int)) = true := decide_eq_true c3
        clear c3
        by_cases c4 : 0 ≤ x11_1
        · rw [if_pos c4] at H
          have c4b0 : decide (0 ≤ x11_1) = true := decide_eq_true c4
          clear c4
          by_cases c5 : x11_1 < (l0.length : Int)
          · rw [if_pos c5] at H
            have c5b0 : decide (x11_1 < (l0.length : Int)) = true := decide_eq_true c5
            clear c5
            by_cases c6 : x11_1 ≥ (l1.length : Int)
            · rw [if_pos c6] at H
              have c6b0 : decide ((l1.length : Int) ≤ x11_1) = true := decide_eq_true c6
              clear c6
              obtain rfl := Option.some.inj H
              have p118 : 0 ≤ (x11_1 : Int) := of_decide_eq_true (by first | (with_reducible assumption) | assumption)
              have q118 : x11_1 < (l0.length : Int) := of_decide_eq_true (by first | (with_reducible assumption) | assumption)
              obtain ⟨ad118, e118, hx118_0⟩ := Kd.at_int HR0.out x11_1 p118 q118
              cases e118
              replace p118 := eq_true p118
              replace q118 := eq_true q118
              go_wp2
              go_ret
              exact ⟨by first | rfl | (simp; done) | (simp [*]; done), by repeat (first | exact Drawn0.refl _ | apply Drawn0.step)⟩
            · rw [if_neg c6] at H
              have c6b0 : decide ((l1.length : Int) ≤ x11_1) = false := decide_eq_false c6
              clear c6
              by_cases c7 : x11_1 < (l1.length : Int)
              · rw [if_pos c7] at H
                have c7b0 : decide (x11_1 < (l1.length : Int)) = true := decide_eq_true c7
                clear c7
                replace H := Option.bind_eq_some_iff.mp H
                obtain ⟨t120, A80, H⟩ := H
                replace H : (if t120 = 0 then (slices_Compare_int_int.l0 k1 l0 l1 l0 (l0.length : Int) (wrap64 (x11_1 + 1))) else (some t120)) = some r := H
                have A8 := Aside0.mk A80
                clear A80
                by_cases c9 : t120 = 0
                · rw [if_pos c9] at H
                  have c9b0 : (t120 == 0) = true := beq_iff_eq.mpr c9
                  have c9b1 : (t120 != 0) = false := bne_eq_false_iff_eq.mpr c9
                  clear c9
                  have H' := Aside0.mk H
                  clear H
                  have p118 : 0 ≤ (x11_1 : Int) := of_decide_eq_true (by first | (with_reducible assumption) | assumption)
                  have q118 : x11_1 < (l0.length : Int) := of_decide_eq_true (by first | (with_reducible assumption) | assumption)
                  obtain ⟨ad118, e118, hx118_0⟩ := Kd.at_int HR0.out x11_1 p118 q118
                  cases e118
                  replace p118 := eq_true p118
                  replace q118 := eq_true q118
                  have p119 : 0 ≤ (x11_1 : Int) := of_decide_eq_true (by first | (with_reducible assumption) | assumption)
                  have q119 : x11_1 < (l1.length : Int) := of_decide_eq_true (by first | (with_reducible assumption) | assumption)
                  obtain ⟨ad119, e119, hx119_0⟩ := Kd.at_int HR1.out x11_1 p119 q119
                  cases e119
                  replace p119 := eq_true p119
                  replace q119 := eq_true q119
                  go_wp2_with (first | ((with_reducible refine gate_callee (f := 90) rfl ?_); refine goesL_ (some 26) rfl rfl Tryd.func90 (by kernel_rfl) rfl #[.int .i64 (rd l0 x11_1), .int .i64 (rd l1 x11_1)] rfl (by (try simp only [List.map_toArray, List.map_cons, List.map_nil]); first | done | rfl | (simp only [List.length_drop, List.length_take]; rfl)) ?_; (with_reducible refine (cmp_Compare_int.calls (rd l0 x11_1) (rd l1 x11_1) t120 _ A8.out).mono ?_); rintro e w' ⟨rfl, ⟨nd, rfl⟩⟩; refine ⟨_, rfl, ?_⟩))
                  go_roundg k1
                  case measure => have := HK1.out; omega
                  case rel => exact ⟨(wrap64 (x11_1 + 1)), (by first | rfl | (simp; done) | (simp [*]; done)), H', ⟨by have := HK1.out; omega⟩, by repeat (first | exact Drawn0.refl _ | apply Drawn0.step)⟩
                · rw [if_neg c9] at H
                  have c9b0 : (t120 == 0) = false := beq_eq_false_iff_ne.mpr c9
                  have c9b1 : (t120 != 0) = true := bne_iff_ne.mpr c9
                  obtain rfl := Option.some.inj H
                  have p118 : 0 ≤ (x11_1 : Int) := of_decide_eq_true (by first | (with_reducible assumption) | assumption)
                  have q118 : x11_1 < (l0.length : Int) := of_decide_eq_true (by first | (with_reducible assumption) | assumption)
                  obtain ⟨ad118, e118, hx118_0⟩ := Kd.at_int HR0.out x11_1 p118 q118
                  cases e118
                  replace p118 := eq_true p118
                  replace q118 := eq_true q118
                  have p119 : 0 ≤ (x11_1 : Int) := of_decide_eq_true (by first | (with_reducible assumption) | assumption)
                  have q119 : x11_1 < (l1.length : Int) := of_decide_eq_true (by first | (with_reducible assumption) | assumption)
                  obtain ⟨ad119, e119, hx119_0⟩ := Kd.at_int HR1.out x11_1 p119 q119
                  cases e119
                  replace p119 := eq_true p119
                  replace q119 := eq_true q119
                  go_wp2_with (first | ((with_reducible refine gate_callee (f := 90) rfl ?_); refine goesL_ (some 26) rfl rfl Tryd.func90 (by kernel_rfl) rfl #[.int .i64 (rd l0 x11_1), .int .i64 (rd l1 x11_1)] rfl (by (try simp only [List.map_toArray, List.map_cons, List.map_nil]); first | done | rfl | (simp only [List.length_drop, List.length_take]; rfl)) ?_; (with_reducible refine (cmp_Compare_int.calls (rd l0 x11_1) (rd l1 x11_1) t120 _ A8.out).mono ?_); rintro e w' ⟨rfl, ⟨nd, rfl⟩⟩; refine ⟨_, rfl, ?_⟩))
                  go_ret
                  exact ⟨by first | rfl | (simp; done) | (simp [*]; done), by repeat (first | exact Drawn0.refl _ | apply Drawn0.step)⟩
              · rw [if_neg c7] at H
                exact absurd H (by simp)
          · rw [if_neg c5] at H
            exact absurd H (by simp)
        · rw [if_neg c4] at H
          exact absurd H (by simp)
      · rw [if_neg c3] at H
        have c3b0 : decide (x11_1 < (l0.length : Int)) = false := decide_eq_false c3
        clear c3
        by_cases c10 : (l0.length : Int) < (l1.length : Int)
        · rw [if_pos c10] at H
          have c10b0 : decide ((l0.length : Int) < (l1.length : Int)) = true := decide_eq_true c10
          have c10b1 : decide (l0.length < l1.length) = true := decide_eq_true (Int.ofNat_lt.mp c10)
          clear c10
          obtain rfl := Option.some.inj H
          go_wp2
          go_ret
          exact ⟨by first | rfl | (simp; done) | (simp [*]; done), by repeat (first | exact Drawn0.refl _ | apply Drawn0.step)⟩
        · rw [if_neg c10] at H
          have c10b0 : decide ((l0.length : Int) < (l1.length : Int)) = false := decide_eq_false c10
          have c10b1 : decide (l0.length < l1.length) = false := decide_eq_false (fun h => c10 (Int.ofNat_lt.mpr h))
          clear c10
          obtain rfl := Option.some.inj H
          go_wp2
          go_ret
          exact ⟨by first | rfl | (simp; done) | (simp [*]; done), by repeat (first | exact Drawn0.refl _ | apply Drawn0.step)⟩

end Go.Proofs.YtglajokjiphafaaDoor.P

set_option linter.unusedSimpArgs false
set_option linter.unusedVariables false
namespace Go.Proofs
open Go.Shelf
shelf_lay_g SlLaysF.n6 Slsf 6 at Tryd 65 as Tryd.sortRows
end Go.Proofs
namespace Go.Proofs.YtglajokjiphafaaDoor.P
open Go.Lib Go.RowKit Go.Proofs.YtglajokjiphafaaDoorW.PrintWords Go.Proofs.YtglajokjiphafaaDoorW.PrintLast Go.Proofs.YtglajokjiphafaaDoorW.PrintMore Go.Proofs.YtglajokjiphafaaDoor.Kit
open Go.Sort
attribute [local go_sem] max2_int min2_int max_two min_two max_three min_three max_four min_four

/-- What slices.Compare answers. -/
def lcmp : List Int → List Int → Int
  | [], [] => 0
  | [], _ :: _ => -1
  | _ :: _, [] => 1
  | x :: a, y :: b => if x < y then -1 else if y < x then 1 else lcmp a b
theorem lcmp_llt : ∀ a b : List Int, decide (lcmp a b < 0) = llt a b
  | [], [] => rfl
  | [], _ :: _ => rfl
  | _ :: _, [] => rfl
  | x :: a, y :: b => by
    have ih := lcmp_llt a b
    simp only [llt]
    by_cases h1 : x < y
    · have e : lcmp (x :: a) (y :: b) = -1 := by simp only [lcmp]; rw [if_pos h1]
      rw [e, decide_eq_true h1]; rfl
    · rw [decide_eq_false h1, Bool.false_or]
      by_cases h2 : y < x
      · have e : lcmp (x :: a) (y :: b) = 1 := by simp only [lcmp]; rw [if_neg h1, if_pos h2]
        rw [e, decide_eq_false (show ¬ x = y by omega)]; rfl
      · have e : lcmp (x :: a) (y :: b) = lcmp a b := by simp only [lcmp]; rw [if_neg h1, if_neg h2]
        rw [e, decide_eq_true (show x = y by omega), Bool.true_and, ih]
theorem swo_llt {α : Type} (g : α → List Int) : SWO (fun x y => llt (g x) (g y)) where
  irrefl x := llt_irr _
  trans x y z h1 h2 := llt_trans h1 h2
  ntrans x y z h1 h2 := by
    cases h : llt (g x) (g z) with
    | false => rfl
    | true =>
      exfalso
      cases h3 : llt (g y) (g x) with
      | true => have := llt_trans h3 h; rw [h2] at this; cases this
      | false =>
        have e := llt_total h1 h3
        rw [e, h2] at h
        cases h
theorem compare_l0 (a b : List Int) (ha : a.length ≤ 9223372036854775807) : ∀ m i k, a.length - i = m → i ≤ a.length → i ≤ b.length → m < k → slices_Compare_int_int.l0 k a b a (a.length : Int) (i : Int) = some (lcmp (a.drop i) (b.drop i)) := by
  intro m
  induction m with
  | zero =>
    intro i k hm hi hb hk
    obtain ⟨k, rfl⟩ : ∃ j, k = j + 1 := ⟨k - 1, by omega⟩
    simp only [slices_Compare_int_int.l0]
    rw [if_neg (by omega), List.drop_of_length_le (show a.length ≤ i by omega)]
    by_cases h : i < b.length
    · rw [if_pos (by omega), List.drop_eq_getElem_cons h]; rfl
    · rw [if_neg (by omega), List.drop_of_length_le (show b.length ≤ i by omega)]; rfl
  | succ m ih =>
    intro i k hm hi hb hk
    obtain ⟨k, rfl⟩ : ∃ j, k = j + 1 := ⟨k - 1, by omega⟩
    have hlt : i < a.length := by omega
    simp only [slices_Compare_int_int.l0]
    rw [if_pos (by omega), if_pos (by omega), if_pos (by omega), List.drop_eq_getElem_cons hlt]
    by_cases h : i < b.length
    · rw [if_neg (by omega), if_pos (by omega), List.drop_eq_getElem_cons h, rd_get a i hlt, rd_get b i h]
      have hc : cmp_Compare_int.f a[i] b[i] = some (if a[i] < b[i] then -1 else if b[i] < a[i] then 1 else 0) := by
        unfold cmp_Compare_int.f cmp_isNaN_int.f
        have e1 : (a[i] != a[i]) = false := by simp
        have e2 : (b[i] != b[i]) = false := by simp
        simp only [Option.bind_some]
        rw [e1, e2, if_neg (by decide), if_neg (by decide)]
        by_cases h1 : a[i] < b[i]
        · rw [if_pos h1, if_pos h1]
        · rw [if_neg h1, if_neg h1]
          by_cases h2 : b[i] < a[i]
          · rw [if_pos h2, if_pos h2]
          · rw [if_neg h2, if_neg h2]
      rw [hc, Option.bind_some]
      simp only [lcmp]
      by_cases h1 : a[i] < b[i]
      · rw [if_pos h1, if_neg (by decide), if_pos h1]
      · rw [if_neg h1, if_neg h1]
        by_cases h2 : b[i] < a[i]
        · rw [if_pos h2, if_neg (by decide), if_pos h2]
        · rw [if_neg h2, if_pos rfl, if_neg h2, wrap1 (by omega)]
          exact ih (i + 1) k (by omega) (by omega) (by omega) (by omega)
    · rw [if_pos (by omega), List.drop_of_length_le (show b.length ≤ i by omega)]; rfl
theorem compare_f (a b : List Int) (ha : a.length ≤ 9223372036854775807) : slices_Compare_int_int.f (a.length + 1) a b = some (lcmp a b) := by
  have := compare_l0 a b ha a.length 0 (a.length + 1) (by omega) (by omega) (by omega) (by omega)
  rw [List.drop_zero, List.drop_zero] at this
  exact this
/-- A row of the sorted lists: it lies in a block of its own, from B on, which is not the outer row's. -/
structure RowX (W : World) (B blk : Nat) where
  l : List Int
  A : Option Addr
  c : Nat
  row : RowB B W A c l
  ne : ∀ g, (Value.slice A l.length c).ownBlock = some g → g ≠ blk
instance rowXInh (W : World) (B blk : Nat) : Inhabited (RowX W B blk) := ⟨⟨[], none, 0, ⟨rfl, .inl ⟨rfl, rfl⟩⟩, fun g h => by simp [Value.ownBlock] at h⟩⟩
def rowE {W : World} {B blk : Nat} (r : RowX W B blk) : Value := .slice r.A r.l.length r.c
def ApartX {W : World} {B blk : Nat} (x y : RowX W B blk) : Prop := ∀ k, (rowE x).ownBlock = some k → (rowE y).ownBlock ≠ some k
theorem rows_of_S {W : World} {B : Nat} {v : Value} {xs : List (List Int)} (h : Kd.S (Kd.slice 3 (Kd.int .i64)) 25 W B (fun _ => True) v xs) (hp : 0 < xs.length) :
    ∃ blk cap, v = .slice (some ⟨blk, 0, none⟩) xs.length cap ∧ B ≤ blk ∧ blk < W.heap.size ∧ ∃ d : List (RowX W B blk), d.map (·.l) = xs ∧ W.ownsRow B 25 1 v xs.length (d.map rowE) ∧ d.Pairwise ApartX := by
  obtain ⟨f, h0, inner, ho, hr⟩ := h
  rw [List.length_zipIdx] at ho
  obtain ⟨blk, cap, rfl, hb, hl⟩ := ho.form hp
  have hil : inner.length = xs.length := by have h9 : inner.length = xs.length * 1 := ho.1; omega
  obtain ⟨rs, h1, h2⟩ := choose_list (α := RowX W B blk) (fun j r => r.l = xs.getD j [] ∧ inner[j]? = some (rowE r) ∧ ∀ k, (rowE r).ownBlock = some k → f k = j) xs.length (fun j hj => by
    have hx := hr.2 j (xs[j], j) (Kd.zip_at (List.getElem?_eq_getElem hj))
    rw [show j * (Kd.tag f (Kd.slice 3 (Kd.int .i64))).sz = j from Nat.mul_one j] at hx
    obtain ⟨v', e, hR⟩ := hx
    have hin : inner[j]? = some v' := by
      have h2 : ((inner.drop j).take 1)[0]? = inner[j]? := by simp
      rw [← h2, show (inner.drop j).take 1 = [v'] from e]; rfl
    obtain ⟨A, c, rfl⟩ := Kd.R_slice hR
    refine ⟨⟨xs[j], A, c, (R_int_own hR).2, fun g hg e => ?_⟩, by simp [List.getD_eq_getElem?_getD, hj], hin, fun k hk => (hR.1 k hk).2⟩
    subst e
    exact (hR.1 g hg).1.2 rfl)
  have hmap : rs.map (·.l) = xs := by
    refine List.ext_getElem (by rw [List.length_map, h1]) (fun j a b => ?_)
    rw [List.length_map] at a
    have := (h2 j b).1
    rw [getElem!_pos rs j (by omega)] at this
    rw [List.getElem_map, this]
    simp [List.getD_eq_getElem?_getD, b]
  have hin : rs.map rowE = inner := by
    refine List.ext_getElem (by rw [List.length_map, h1, hil]) (fun j a b => ?_)
    rw [List.length_map] at a
    have := (h2 j (by omega)).2.1
    rw [getElem!_pos rs j (by omega), List.getElem?_eq_getElem b] at this
    injection this with this
    rw [List.getElem_map, this]
  refine ⟨blk, cap, rfl, hb, hl, rs, hmap, by rw [hin]; exact ho, ?_⟩
  rw [List.pairwise_iff_getElem]
  intro i j hi hj hij k hk hk2
  have a1 := (h2 i (by omega)).2.2 k (by rw [getElem!_pos rs i hi]; exact hk)
  have a2 := (h2 j (by omega)).2.2 k (by rw [getElem!_pos rs j hj]; exact hk2)
  omega
theorem own_put_rowE {α : Type} [Inhabited α] (enc : α → Value) {base g cap e m : Nat} {os : Array Obj} {w : World} {xs ys : List α} (hlen : ys.length = xs.length)
    (h : w.ownsRow base e 1 (.slice (some ⟨g, 0, none⟩) xs.length cap) xs.length (xs.map enc)) :
    (grow (putRow enc (Sort.ahead w m) g 0 ys.toArray) os).ownsRow base e 1 (.slice (some ⟨g, 0, none⟩) xs.length cap) ys.length (ys.map enc) := by
  obtain ⟨hl, h⟩ := h
  rcases h with ⟨h1, _⟩ | ⟨g', cap', cur, h1, hb, hh, hn, hc, hs, ht⟩
  · cases h1
  · injection h1 with h1 h2 h3
    injection h1 with h1
    injection h1 with h1
    subst h1 h3
    have hg : g < w.heap.size := (Array.getElem?_eq_some_iff.1 hh).1
    refine ⟨by rw [List.length_map, Nat.mul_one], .inr ⟨g, cap, putCells enc 0 ys.toArray cur, by rw [hlen], hb, ?_, by omega, hc, by simp [putCells, hs], ?_⟩⟩
    · rw [heap_grow_old _ _ (by simpa using hg)]
      simp only [putRow, mapBlock, heap_ahead, Array.getElem?_modify, if_true, hh, Option.map_some, onCells]
    · rw [Nat.mul_one]
      apply List.ext_getElem?
      intro j
      rw [List.getElem?_take]
      by_cases hj : j < ys.length
      · have hjc : j < cur.size := by omega
        rw [if_pos hj]
        simp only [putCells, Array.getElem?_toList, Array.getElem?_mapIdx, Array.getElem?_eq_getElem hjc, Option.map_some, Nat.zero_le, true_and, Nat.zero_add, List.size_toArray, if_pos hj, Nat.sub_zero]
        simp [List.getElem?_eq_getElem hj, hj]
      · rw [if_neg hj, List.getElem?_eq_none (by rw [List.length_map]; omega)]
theorem holds_ownE {α : Type} [Inhabited α] (enc : α → Value) {base g cap e : Nat} {w : World} {xs : List α} (h : w.ownsRow base e 1 (.slice (some ⟨g, 0, none⟩) xs.length cap) xs.length (xs.map enc)) :
    Holds enc w g 0 xs.toArray := by
  obtain ⟨hl, h⟩ := h
  rcases h with ⟨h1, _⟩ | ⟨g', cap', cur, h1, hb, hh, hn, hc, hs, ht⟩
  · cases h1
  · injection h1 with h1 h2 h3
    injection h1 with h1
    injection h1 with h1
    subst h1
    intro j hj
    simp only [List.size_toArray] at hj
    rw [Nat.mul_one] at ht
    constructor
    · have h4 : cur.toList[j]? = (xs.map enc)[j]? := by
        rw [← ht, List.getElem?_take, if_pos hj]
      simp only [World.cell?, hh, Nat.zero_add]
      simp only [Option.isSome_none, Bool.false_eq_true, if_false]
      rw [← Array.getElem?_toList, h4]
      simp [List.getElem?_eq_getElem hj, hj]
    · simp [World.frozen?, hh]
theorem below_put_rowE {α : Type} [Inhabited α] (enc : α → Value) {B g m : Nat} {os : Array Obj} {w0 w : World} {d : Array α} (hB : Below B w0 w) (hg : B ≤ g) (hlt : B ≤ w.heap.size) : Below B w0 (grow (putRow enc (Sort.ahead w m) g 0 d) os) := by
  refine ⟨hB.os, hB.tape, hB.output, ?_, fun i hi => ?_⟩
  · have := hB.size
    simp [Sort.ahead]
    omega
  · rw [heap_grow_old _ _ (by simp; omega)]
    simp only [putRow, mapBlock, heap_ahead, Array.getElem?_modify]
    rw [if_neg (by omega)]
    exact hB.block i hi
theorem kept_put_rowE {α : Type} [Inhabited α] (enc : α → Value) {g m : Nat} {os : Array Obj} {w : World} {d : Array α} : Kept w (grow (putRow enc (Sort.ahead w m) g 0 d) os) (fun k => k = g) := by
  refine ⟨by simp [Sort.ahead], fun i hi hn => ?_⟩
  rw [heap_grow_old _ _ (by simpa using hi)]
  simp only [putRow, mapBlock, heap_ahead, Array.getElem?_modify]
  rw [if_neg (fun e : g = i => hn e.symm)]
theorem RowX.kept {W W1 : World} {B blk : Nat} (r : RowX W B blk) (hk : Kept W W1 (fun k => k = blk)) : RowB B W1 r.A r.c r.l :=
  own_move r.row (fun k h => hk.2 k (own_lt r.row k h) (fun e => r.ne k h e))
set_option maxHeartbeats 4000000
set_option maxRecDepth 100000
theorem cmp2_calls (A : Option Addr) (c : Nat) (l : List Int) (A2 : Option Addr) (c2 : Nat) (l2 : List Int) (W : World) (h1 : RowAt W A c l) (h2 : RowAt W A2 c2 l2) :
    Calls Tryd.prog 66 #[.slice A l.length c, .slice A2 l2.length c2] W fun e w' => e = .returned (.int .i64 (lcmp l l2)) ∧ ∃ q, w' = W.drewN q := by
  have HL := Aside0.mk (show l.length ≤ 9223372036854775807 from h1.reads.1.2.1)
  have HR1 := Aside0.mk h1.reads.1
  have HC1 := Aside0.mk h1.reads.2
  have HR2 := Aside0.mk h2.reads.1
  have HC2 := Aside0.mk h2.reads.2
  obtain ⟨r, hr⟩ : ∃ r, lcmp l l2 = r := ⟨_, rfl⟩
  have HF : ∀ _ : Unit, slices_Compare_int_int.f (l.length + 1) l l2 = some r := fun _ => by rw [← hr]; exact compare_f l l2 HL.out
  rw [hr]
  clear h1 h2 hr
  go_enter Tryd.func66, Tryd.ntmps66
  go_wp2_with (go_at_call 67; (refine (slices_Compare_int_int.calls (l.length + 1) A c l A2 c2 l2 r _ (by repeat (first | exact HR1.out | (with_reducible refine Kd.C_drewN ?_ _) | (with_reducible refine Kd.C_drew ?_))) HC1.out (by repeat (first | exact HR2.out | (with_reducible refine Kd.C_drewN ?_ _) | (with_reducible refine Kd.C_drew ?_))) HC2.out (HF ())).mono ?_); rintro e w' ⟨rfl, ⟨nd, rfl⟩⟩)
  go_ret
  exact ⟨rfl, nd, rfl⟩
theorem sort_calls {W : World} {B : Nat} {v : Value} {xs : List (List Int)} (hS : Kd.S (Kd.slice 3 (Kd.int .i64)) 25 W B (fun _ => True) v xs) (hsz : xs.length ≤ 1000000) :
    Calls Tryd.prog 65 #[v, .func (.func 66) #[] #[]] W fun e w' => e = .returned (.tuple #[]) ∧ (∃ ys : List (List Int), ys.Perm xs ∧ ys.Pairwise (fun a b => llt b a = false) ∧ Kd.S (Kd.slice 3 (Kd.int .i64)) 25 w' B (fun _ => True) v ys) ∧ Kept W w' (fun k => v.ownBlock = some k) ∧ (∀ w0, Below B w0 W → Below B w0 w') := by
  rcases Nat.eq_zero_or_pos xs.length with h0 | h0
  · have hx : xs = [] := List.length_eq_zero_iff.1 h0
    subst hx
    obtain ⟨A, c, rfl⟩ := Kd.S_slice hS
    refine (AnyF.slices_SortFunc_none { Tryd.sortRows with } A c _ W).mono ?_
    rintro e w' ⟨rfl, rfl⟩
    exact ⟨rfl, ⟨[], List.Perm.refl _, List.Pairwise.nil, hS⟩, Kept.refl _ _, fun _ h => h⟩
  · obtain ⟨blk, cap, rfl, hb, hl, d, hd, ho, hap⟩ := rows_of_S hS h0
    have hdl : d.length = xs.length := by rw [← hd, List.length_map]
    rw [← hdl] at ho
    have e : ltOf (fun x y : RowX W B blk => lcmp x.l y.l) = fun x y => llt x.l y.l := by
      funext x y
      exact lcmp_llt _ _
    have hO : SWO (ltOf (fun x y : RowX W B blk => lcmp x.l y.l)) := by rw [e]; exact swo_llt (fun r : RowX W B blk => r.l)
    have hcr : CmpReads Tryd.prog 66 #[] (rowE (W := W) (B := B) (blk := blk)) (fun x y => lcmp x.l y.l) blk 0 d.toArray.size W := fun m os dk hdk x y =>
      cmp2_calls x.A x.c x.l y.A y.c y.l _ (x.kept (kept_put_rowE _)).at (y.kept (kept_put_rowE _)).at
    have key := Any.slices_SortFunc Tryd.sortRows (rowE (W := W) (B := B) (blk := blk)) (fun _ => rfl) (fun x y => lcmp x.l y.l) hO 66 #[] blk 0 cap d.toArray W (enters_of Tryd.func66 (by kernel_rfl) rfl) hcr.lays (holds_ownE _ ho) hl (by simp; omega)
    rw [show d.toArray.size = xs.length by simpa using hdl] at key
    refine key.mono ?_
    rintro e' w' ⟨rfl, d', n, os, hp, hs, rfl⟩
    obtain ⟨hsz', _, hperm⟩ := hp
    rw [e] at hs
    have hs1 : d'.size = xs.length := by rw [hsz']; simpa using hdl
    have e1 : d'.extract 0 xs.length = d' := by rw [← hs1]; exact Array.extract_size
    have e2 : d.toArray.extract 0 xs.length = d.toArray := by rw [show xs.length = d.toArray.size by simpa using hdl.symm]; exact Array.extract_size
    rw [e1, e2] at hperm
    have hpd : d'.toList.Perm d := hperm
    have hap' : d'.toList.Pairwise ApartX := (List.Perm.pairwise_iff (fun {x y} h k h1 h2 => h k h2 h1) hpd).2 hap
    have hlen : d'.toList.length = d.length := by rw [Array.length_toList, hs1, hdl]
    have hown := own_put_rowE (m := n) (os := os) rowE hlen ho
    have hk : Kept W (sortWorld rowE W blk 0 n d' os) (fun k => k = blk) := kept_put_rowE _
    have hown' : (sortWorld rowE W blk 0 n d' os).ownsRow B 25 1 (.slice (some ⟨blk, 0, none⟩) xs.length cap) xs.length (d'.toList.map rowE) := by
      rw [hlen, hdl] at hown
      exact hown
    refine ⟨rfl, ⟨d'.toList.map (·.l), by rw [← hd]; exact hpd.map _, ?_, ?_⟩, hk.mono (fun k h => by rw [h]; rfl), fun w0 h => below_put_rowE _ h hb (Nat.le_trans hb (Nat.le_of_lt hl))⟩
    · rw [List.pairwise_map, List.pairwise_iff_getElem]
      intro i j hi hj hij
      have h2 := hs i j (Nat.zero_le _) hij (by rw [Array.length_toList] at hj; omega)
      rw [Array.length_toList] at hi hj
      rw [getElem!_pos d' j hj, getElem!_pos d' i hi] at h2
      simpa using h2
    · obtain ⟨f, hf⟩ := Kd.reps_tag (d := Kd.slice 3 (Kd.int .i64)) (w := sortWorld rowE W blk 0 n d' os) (base := B) (ok := fun k => (fun _ => True) k ∧ some k ≠ (Value.slice (some ⟨blk, 0, none⟩) xs.length cap).ownBlock) (xs := d'.toList.map (·.l)) (inner := d'.toList.map rowE)
        (fun j k => ∃ r, d'.toList[j]? = some r ∧ (rowE r).ownBlock = some k)
        (fun i j k h1 h2 => by
          obtain ⟨r1, a1, b1⟩ := h1
          obtain ⟨r2, a2, b2⟩ := h2
          obtain ⟨l1, a1⟩ := List.getElem?_eq_some_iff.1 a1
          obtain ⟨l2, a2⟩ := List.getElem?_eq_some_iff.1 a2
          rcases Nat.lt_trichotomy i j with h | h | h
          · exact absurd b2 (by have := List.pairwise_iff_getElem.1 hap' i j l1 l2 h k; rw [a1, a2] at this; exact this b1)
          · exact h
          · exact absurd b1 (by have := List.pairwise_iff_getElem.1 hap' j i l2 l1 h k; rw [a1, a2] at this; exact this b2))
        (fun j k h => by
          obtain ⟨r, _, h2⟩ := h
          refine ⟨trivial, fun e3 => ?_⟩
          have : k = blk := by simpa [Value.ownBlock] using e3
          exact r.ne k h2 this)
        (by rw [List.length_map, List.length_map]; exact (Nat.mul_one _).symm)
        (fun j x hx => by
          rw [List.getElem?_map] at hx
          obtain ⟨r, hr, rfl⟩ := Option.map_eq_some_iff.1 hx
          have hj := (List.getElem?_eq_some_iff.1 hr).1
          refine ⟨rowE r, ?_, ?_⟩
          · show ((d'.toList.map rowE).drop (j * 1)).take 1 = [rowE r]
            rw [Nat.mul_one, List.drop_eq_getElem_cons (by rw [List.length_map]; exact hj), List.getElem_map, (List.getElem?_eq_some_iff.1 hr).2]
            rfl
          · exact R_int_mk (fun k hk' => ⟨r, hr, hk'⟩) (r.kept hk))
      refine ⟨f, fun _ _ => trivial, d'.toList.map rowE, ?_, hf⟩
      have hz : ((d'.toList.map (fun r => r.l)).zipIdx).length = xs.length := by rw [List.length_zipIdx, List.length_map, Array.length_toList, hs1]
      rw [hz]
      exact hown'
end Go.Proofs.YtglajokjiphafaaDoor.P

set_option linter.unusedSimpArgs false
set_option linter.unusedVariables false
namespace Go.Proofs.YtglajokjiphafaaDoor.P
open Go.Lib Go.RowKit Go.Proofs.YtglajokjiphafaaDoorW.PrintWords Go.Proofs.YtglajokjiphafaaDoorW.PrintLast Go.Proofs.YtglajokjiphafaaDoorW.PrintMore Go.Proofs.YtglajokjiphafaaDoor.Kit
attribute [local go_sem] max2_int min2_int max_two min_two max_three min_three max_four min_four

def outP (n : Int) (d : List (List Int)) (f : List Int) : List Bool × Int := if ofN n d = 0 then (if risB n f = true then (outB d f, 0) else ([], 2)) else ([], ofN n d)
theorem andu_bit (x i : Nat) (hx : x < 18446744073709551616) (hi : i ≤ 63) : (Go.bits .and .u64 (x : Int) (shl .u64 1 (i : Int)) != 0) = x.testBit i := by
  have e : x &&& 2 ^ i = if x.testBit i = true then 2 ^ i else 0 := by
    refine Nat.eq_of_testBit_eq fun j => ?_
    rw [Nat.testBit_and, Nat.testBit_two_pow]
    by_cases h : i = j
    · subst h
      cases x.testBit i <;> simp
    · cases x.testBit i <;> simp [h]
  have h0 : (2 : Nat) ^ i ≠ 0 := by have := Nat.two_pow_pos i; omega
  rw [shlu hi, andu _ _ hx (pow_lt64 hi), e]
  cases x.testBit i with
  | false => rfl
  | true =>
    rw [if_pos rfl]
    exact bne_iff_ne.2 (by omega)
theorem out_bit (d : List (List Int)) (hd : d.length ≤ 60) (f : List Int) (i : Nat) (hi : i < d.length) : (Go.bits .and .u64 (darkN d f : Int) (shl .u64 1 (i : Int)) != 0) = (outB d f).getD i false := by
  rw [andu_bit _ _ (darkN_lt64 (by omega) _) (by omega), darkN_told, testBit_told]
theorem rdB_get (l : List Bool) (i : Nat) (h : i < l.length) : rdOf false l (i : Int) = l[i] := by unfold rdOf; simp [List.getD_eq_getElem?_getD, h]
theorem shl_form (i : Nat) : shl .u64 1 (i : Int) = IntKind.u64.wrap (2 ^ min i 64) := by
  unfold shl
  rw [show IntKind.u64.bits = 64 from rfl, Int.toNat_natCast, Int.one_mul]
def OutPost (n : Int) (ls : List (List Int)) (f : List Int) (w : World) (e : Ending) (w' : World) : Prop :=
  ∃ v0_ : Value, e = .returned (.tuple #[v0_, .int .i64 (outP n ls f).2]) ∧ Kd.R Kd.bool 4 w' w.heap.size (fun _ => True) v0_ (outP n ls f).1 ∧ Below w.heap.size w w'
set_option maxHeartbeats 4000000
set_option maxRecDepth 100000
theorem out_no (n : Int) (A1 : Option Addr) (c1 : Nat) (ls : List (List Int)) (A2 : Option Addr) (c2 : Nat) (f : List Int) (w : World) (hr1 : Kd.C (Kd.slice 3 (Kd.int .i64)) w A1 ls.length ls) (hr2 : Kd.C (Kd.int .i64) w A2 f.length f) (hc2 : f.length ≤ c2) (h : ofN n ls ≠ 0 ∨ risB n f = false) :
    Calls Tryd.prog 25 #[.int .i64 n, .slice A1 ls.length c1, .slice A2 f.length c2] w (OutPost n ls f w) := by
  by_cases h0 : ofN n ls = 0
  · have hD : risB n f = false := by rcases h with h | h; exact absurd h0 h; exact h
    have HP := Aside0.mk (show outP n ls f = ([], 2) by unfold outP; rw [if_pos h0, if_neg (by rw [hD]; decide)])
    have HF := Aside0.mk (show find_rising.f (f.length + 1) f n = some false by rw [rising_f n f hr2.2.1 (f.length + 1) (by omega), hD])
    have HO := Aside0.mk (of_ok n A1 c1 ls w hr1 h0)
    have HR2 := Aside0.mk hr2
    have HC2 := Aside0.mk hc2
    clear h h0 hD hr1 hr2 hc2
    go_enter Tryd.func25, Tryd.ntmps25
    go_wp2_with (first | (go_at_call 42; (with_reducible refine (HO.out).mono ?_); rintro e w1 ⟨g, rfl, hI, hb⟩; have HB := Aside0.mk hb; clear hI hb) | (go_at_call 54; (refine (find_rising.calls (f.length + 1) A2 c2 f n false _ (by repeat (first | exact (Kd.C_below HR2.out HB.out) | (with_reducible refine Kd.C_alloc ?_ _) | (with_reducible refine Kd.C_drewN ?_ _) | (with_reducible refine Kd.C_drew ?_))) HC2.out HF.out).mono ?_); rintro e w' ⟨rfl, ⟨nd, rfl⟩⟩))
    go_ret2
    exact ⟨_, by rw [HP.out]; rfl, by rw [HP.out]; exact Kd.R_nil _ _ _ _ _, by repeat (first | exact HB.out | apply pw_below_drewN | apply below_drew1)⟩
  · have e0 : (ofN n ls != 0) = true := by simpa using h0
    have e1 : (ofN n ls == 0) = false := by simpa using h0
    have HP := Aside0.mk (show outP n ls f = ([], ofN n ls) by unfold outP; rw [if_neg h0])
    have HO := Aside0.mk (of_no n A1 c1 ls _ w hr1 rfl h0)
    clear h h0 hr1 hr2 hc2
    go_enter Tryd.func25, Tryd.ntmps25
    go_wp2_with (first | (go_at_call 42; (with_reducible refine (HO.out).mono ?_); rintro e w1 ⟨rfl, hb⟩; have HB := Aside0.mk hb; clear hb))
    go_ret2
    exact ⟨_, by rw [HP.out]; rfl, by rw [HP.out]; exact Kd.R_nil _ _ _ _ _, by repeat (first | exact HB.out | apply pw_below_drewN | apply below_drew1)⟩
theorem out_yes (n : Nat) (A1 : Option Addr) (c1 : Nat) (ls : List (List Int)) (A2 : Option Addr) (c2 : Nat) (f : List Int) (w : World) (hr1 : Kd.C (Kd.slice 3 (Kd.int .i64)) w A1 ls.length ls) (hr2 : Kd.C (Kd.int .i64) w A2 f.length f) (hc2 : f.length ≤ c2) (h0 : ofN (n : Int) ls = 0) (hf : risB (n : Int) f = true) :
    Calls Tryd.prog 25 #[.int .i64 (n : Int), .slice A1 ls.length c1, .slice A2 f.length c2] w (OutPost (n : Int) ls f w) := by
  have hn := (ofN_ok h0).1
  have hd := (ofN_ok h0).2.1
  have hn100 : n ≤ 100 := by omega
  have HD := Aside0.mk hd
  have HP := Aside0.mk (show outP (n : Int) ls f = (outB ls f, 0) by unfold outP; rw [if_pos h0, if_pos hf])
  have hfl : f.length ≤ 100 := by have := ris_length hf (by omega); omega
  have HF := Aside0.mk (show find_rising.f (f.length + 1) f (n : Int) = some true by rw [rising_f (n : Int) f hr2.2.1 (f.length + 1) (by omega), hf])
  have HDk := Aside0.mk (dark_f n ls hd f (ris_mem hf) (by omega) (f.length + 1) (by omega))
  have HO := Aside0.mk (of_ok (n : Int) A1 c1 ls w hr1 h0)
  have HCe := Aside0.mk (cols_ev n hn100 ls hd (ofN_rows h0) (ofN_lens h0)).rounds
  obtain ⟨k, hk⟩ := HCe.out
  have HK := Aside0.mk hk
  have HR2 := Aside0.mk hr2
  have HC2 := Aside0.mk hc2
  clear h0 hf hr1 hr2 hc2 hn hd hn100 hfl HCe hk
  go_enter Tryd.func25, Tryd.ntmps25
  go_wp2_with (first | (go_at_call 42; (with_reducible refine (HO.out).mono ?_); rintro e w1 ⟨g, rfl, hI, hb⟩; have HB := Aside0.mk hb; have HI := Aside0.mk hI; clear hI hb) | (go_at_call 54; (refine (find_rising.calls (f.length + 1) A2 c2 f (n : Int) true _ (by repeat (first | exact (Kd.C_below HR2.out HB.out) | (with_reducible refine Kd.C_alloc ?_ _) | (with_reducible refine Kd.C_drewN ?_ _) | (with_reducible refine Kd.C_drew ?_))) HC2.out HF.out).mono ?_); rintro e w' ⟨rfl, ⟨nd, rfl⟩⟩) | (go_at_call 44; (refine (find_design_columns.calls k g (n : Int) ls (colsOf n ls) (n : Int) w _ (by first | exact HI.out | exact HI.out.drewN _) (by first | exact HB.out | exact pw_below_drewN HB.out _) HK.out).mono ?_); rintro e w2 ⟨v0, rfl, hR2, _, hb2, _⟩; obtain ⟨A3, c3, rfl, hc3, hW3⟩ := Kd.R_reads hR2; have HW3 := Aside0.mk hW3; have HC3 := Aside0.mk hc3; have HB2 := Aside0.mk hb2; clear hW3 hb2 hR2 hc3) | (go_at_call 48; (refine (find_dark.calls (f.length + 1) _ _ (colsOf n ls) _ _ f _ _ (by repeat (first | exact HW3.out | (with_reducible refine Kd.C_alloc ?_ _) | (with_reducible refine Kd.C_drewN ?_ _) | (with_reducible refine Kd.C_drew ?_))) HC3.out (by repeat (first | exact (Kd.C_below HR2.out HB2.out) | (with_reducible refine Kd.C_alloc ?_ _) | (with_reducible refine Kd.C_drewN ?_ _) | (with_reducible refine Kd.C_drew ?_))) HC2.out HDk.out).mono ?_); rintro e w' ⟨rfl, ⟨nd2, rfl⟩⟩))
  go_loopw [11, 32] (fun v11 v32 w' => ∃ i : Nat, v32 = .int .i64 (i : Int) ∧ Aside0 (i ≤ ls.length) ∧ Aside0 (Kd.R Kd.bool 4 w' w.heap.size (fun _ => True) v11 ((outB ls f).take i)) ∧ Aside0 (Below w.heap.size w w')) (fun _ v _ => ls.length - (intOf v).toNat)
  case atStart => exact ⟨0, rfl, ⟨Nat.zero_le _⟩, ⟨Kd.R_nil _ _ _ _ _⟩, ⟨by repeat (first | exact HB2.out | apply pw_below_drewN | apply below_drew1)⟩⟩
  case round =>
    clear HB2 HB HI HW3
    obtain ⟨i, rfl, Hi, HR, HB⟩ := hrel
    by_cases ct : (i : Int) < (ls.length : Int)
    · have c1b : decide ((i : Int) < (ls.length : Int)) = true := decide_eq_true ct
      have c1c : decide (i < ls.length) = true := decide_eq_true (by omega)
      have c1d : decide (0 ≤ (i : Int)) = true := decide_eq_true (by omega)
      have hlt : i < ls.length := by omega
      have Hct := Aside0.mk hlt
      have hbit := out_bit ls HD.out f i hlt
      rw [shl_form] at hbit
      have htk : (outB ls f).take i ++ [(outB ls f).getD i false] = (outB ls f).take (i + 1) := by
        have h2 : i < (outB ls f).length := by rw [outB_length]; exact hlt
        rw [List.take_succ_eq_append_getElem h2]
        simp [List.getD_eq_getElem?_getD, h2]
      have HTK := Aside0.mk htk
      have HBit := Aside0.mk hbit
      have hlen : ((outB ls f).take i).length < 140737488355328 := by rw [List.length_take]; have := HD.out; omega
      have HLen := Aside0.mk hlen
      clear ct hlt htk hlen hbit
      go_wp2_with (first | ((with_reducible refine gate_builtin (b := .append) (xs := #[.tmp 35, .tmp 41]) rfl ?_); at_builtin; (try rw [HBit.out]); refine Kd.R_append Kd.bool (w0 := w) w.heap.size rfl (.tmp 35) (.tmp 41) 40 4 (.bool false) 1 rfl Tryd.underlying40 info4 rfl (by decide) (by omega) _ ((outB ls f).take i) ((outB ls f).getD i false) [.bool ((outB ls f).getD i false)] (fun _ => True) (fun _ => False) rfl rfl ?aP (fun _ hk => hk.elim) ?aF ?aO ?aB ?aS ?aL ?_; (case aP => exact rfl); (case aB => exact (by repeat (first | (with_reducible first | exact HB.out | apply below_alloc | apply pw_below_drewN | apply below_drew1) | exact HB.out))); (case aF => exact (fun _ _ => trivial)); (case aO => exact (by (with_reducible repeat (first | apply Kd.R_alloc | apply Kd.R_drewN | apply Kd.R_drew)); exact HR.out)); (case aS => exact (below_size (by repeat (first | (with_reducible first | exact HB.out | apply below_alloc | apply pw_below_drewN | apply below_drew1) | exact HB.out)))); (case aL => have := HLen.out; omega); intro v243 w7 ho hb hg hat; rw [HTK.out] at ho; have n0_ := Aside0.mk (hb); have n1_ := Aside0.mk (ho); clear HB; clear HR; have HB := n0_; have HR := n1_; clear n0_ n1_; clear ho hb hg hat))
      go_roundw
      case rel => exact ⟨i + 1, by rw [wrap1 (by have := Hct.out; have := HD.out; omega)], ⟨by have := Hct.out; omega⟩, HR, HB⟩
      case measure => rw [wrap1 (by have := Hct.out; have := HD.out; omega)]; have := Hct.out; simp [intOf]; omega
    · have c1b : decide ((i : Int) < (ls.length : Int)) = false := decide_eq_false ct
      have c1c : decide (i < ls.length) = false := decide_eq_false (by omega)
      have he : (outB ls f).take i = outB ls f := List.take_of_length_le (by rw [outB_length]; omega)
      have HE := Aside0.mk he
      clear ct he
      go_wp2
      go_ret2
      exact ⟨_, by rw [HP.out]; rfl, by rw [HP.out, ← HE.out]; exact HR.out, HB.out⟩
/-- find.Outcomes, told as the printed contracts are. -/
def find_Outcomes.f (a0 : Int) (l1 : List (List Int)) (l2 : List Int) : Option (List Bool × Int) := some (outP a0 l1 l2)
theorem find_Outcomes.calls (a0 : Int) (A1 : Option Addr) (c1 : Nat) (l1 : List (List Int)) (A2 : Option Addr) (c2 : Nat) (l2 : List Int) (r1 : List Bool) (r2 : Int) (w : World) (hr1 : Kd.C (Kd.slice 3 (Kd.int .i64)) w A1 l1.length l1) (hc1 : l1.length ≤ c1) (hr2 : Kd.C (Kd.int .i64) w A2 l2.length l2) (hc2 : l2.length ≤ c2) (h : find_Outcomes.f a0 l1 l2 = some (r1, r2)) :
    Calls Tryd.prog 25 #[.int .i64 a0, .slice A1 l1.length c1, .slice A2 l2.length c2] w fun e w' => ∃ v0_ : Value, e = .returned (.tuple #[v0_, .int .i64 r2]) ∧ Kd.R Kd.bool 4 w' w.heap.size (fun _ => True) v0_ r1 ∧ Below w.heap.size w w' := by
  have hp : outP a0 l1 l2 = (r1, r2) := by injection h
  have key : Calls Tryd.prog 25 #[.int .i64 a0, .slice A1 l1.length c1, .slice A2 l2.length c2] w (OutPost a0 l1 l2 w) := by
    by_cases h1 : ofN a0 l1 = 0
    · cases h2 : risB a0 l2 with
      | true =>
        obtain ⟨n, rfl⟩ := Int.eq_ofNat_of_zero_le (show 0 ≤ a0 by have := (ofN_ok h1).1; omega)
        exact out_yes n A1 c1 l1 A2 c2 l2 w hr1 hr2 hc2 h1 h2
      | false => exact out_no a0 A1 c1 l1 A2 c2 l2 w hr1 hr2 hc2 (.inr h2)
    · exact out_no a0 A1 c1 l1 A2 c2 l2 w hr1 hr2 hc2 (.inl h1)
  refine key.mono ?_
  rintro e w' ⟨v, he, h1, h2⟩
  rw [hp] at he h1
  exact ⟨v, he, h1, h2⟩
end Go.Proofs.YtglajokjiphafaaDoor.P

set_option linter.unusedSimpArgs false
set_option linter.unusedVariables false
namespace Go.Proofs.YtglajokjiphafaaDoor.P
open Go.Lib Go.RowKit Go.Proofs.YtglajokjiphafaaDoorW.PrintWords Go.Proofs.YtglajokjiphafaaDoorW.PrintLast Go.Proofs.YtglajokjiphafaaDoorW.PrintMore Go.Proofs.YtglajokjiphafaaDoor.Kit
attribute [local go_sem] max2_int min2_int max_two min_two max_three min_three max_four min_four

theorem setG_le (q : List Int → Bool) : ∀ (ys st : List (List Int)), st.length ≤ 2000 → (setG q st ys).2 = false → (setG q st ys).1.length ≤ 2000
  | [], st, h, _ => h
  | y :: ys, st, h, h2 => by
    simp only [setG] at h2 ⊢
    cases hs : (setS q st y).2 with
    | true => rw [hs, if_pos rfl] at h2; cases h2
    | false =>
      rw [hs, if_neg (by decide)] at h2
      rw [if_neg (by decide)]
      refine setG_le q ys _ ?_ h2
      unfold setS at hs ⊢
      simp only [decide_eq_false_iff_not] at hs
      dsimp only
      omega
/-- The visitor, as long as it is called. -/
def setO (q : List Int → Bool) (st : List (List Int)) (l : List Int) : Option (List (List Int) × Bool) := if st.length ≤ 2000 then some (setS q st l) else none
theorem subs_setO (q : List Int → Bool) (n : Nat) : ∀ (m : Nat) (st : List (List Int)) (l : List Int) (i : Nat), st.length ≤ 2000 →
    subs (setO q) n m st l i = some (setG q st ((cmb n m i).map (l ++ ·))) := by
  intro m
  induction m with
  | zero =>
    intro st l i hst
    show setO q st l = _
    unfold setO
    rw [if_pos hst]
    simp only [cmb, List.map_cons, List.map_nil, List.append_nil, setG]
    cases h : (setS q st l).2 with
    | true => rw [if_pos rfl, ← h]
    | false => rw [if_neg (by decide), ← h]
  | succ m ih =>
    intro st l i hst
    show (List.range' i (n - i)).foldlM _ (st, false) = _
    have key : ∀ (L : List Nat) (st : List (List Int)), st.length ≤ 2000 → L.foldlM (fun (p : List (List Int) × Bool) (u : Nat) => if p.2 = true then some p else subs (setO q) n m p.1 (l ++ [(u : Int)]) (u + 1)) (st, false) = some (setG q st ((L.flatMap fun u => (cmb n m (u + 1)).map ((u : Int) :: ·)).map (l ++ ·))) := by
      intro L
      induction L with
      | nil => intro st _; rfl
      | cons u L ihL =>
        intro st hst
        rw [List.foldlM_cons]
        have h1 := ih st (l ++ [(u : Int)]) (u + 1) hst
        refine (congrArg (fun o => Option.bind o (fun init => L.foldlM (fun (p : List (List Int) × Bool) (u : Nat) => if p.2 = true then some p else subs (setO q) n m p.1 (l ++ [(u : Int)]) (u + 1)) init)) h1).trans ?_
        rw [List.flatMap_cons, List.map_append, setG_append, List.map_map]
        have e : ((fun y => l ++ y) ∘ fun y => (u : Int) :: y) = fun y => (l ++ [(u : Int)]) ++ y := by funext y; simp
        rw [e]
        show L.foldlM _ (setG q st ((cmb n m (u + 1)).map ((l ++ [(u : Int)]) ++ ·))) = _
        have hle := setG_le q ((cmb n m (u + 1)).map ((l ++ [(u : Int)]) ++ ·)) st hst
        cases hg : setG q st ((cmb n m (u + 1)).map ((l ++ [(u : Int)]) ++ ·)) with
        | mk s b =>
          rw [hg] at hle
          cases b with
          | true => exact foldlM_true (f := fun (s : List (List Int)) (u : Nat) => subs (setO q) n m s (l ++ [(u : Int)]) (u + 1)) L s
          | false => exact ihL s (hle rfl)
    exact key _ _ hst
/-- What the visitor keeps. -/
structure SetAt (B : Nat) (cols : List Int) (want : Nat) (Bc Bw Bo : Nat) (st : List (List Int)) (W : World) : Prop where
  c : BoxC Bc cols W
  w : W.heap[Bw]? = some (.cells #[.int .u64 (want : Int)] 70 (0, 0))
  o : ∃ v, W.heap[Bo]? = some (.cells #[v] 22 (0, 0)) ∧ Kd.S (Kd.slice 3 (Kd.int .i64)) 25 W B (fun _ => True) v st
theorem SetAt.keep {B : Nat} {cols : List Int} {want Bc Bw Bo : Nat} {st : List (List Int)} {W W' : World} (h : SetAt B cols want Bc Bw Bo st W) (hb : Below W.heap.size W W') : SetAt B cols want Bc Bw Bo st W' := by
  obtain ⟨h1, h2, v, h3, h4⟩ := h
  exact ⟨h1.kp (Kp.of_below hb), (hb.block _ (blk_lt h2)).trans h2, v, (hb.block _ (blk_lt h3)).trans h3, Kd.S_below h4 hb⟩
theorem box_put2 {W : World} {B : Nat} {u v : Value} {T : TypeId} (h : W.heap[B]? = some (.cells #[u] T (0, 0))) : (W.setCell ⟨B, 0, none⟩ v).heap[B]? = some (.cells #[v] T (0, 0)) := blk_put h 0 v rfl
/-- A list of lists is put into its box. -/
theorem SetAt.put {B : Nat} {cols : List Int} {want Bc Bw Bo : Nat} {st st' : List (List Int)} {W W1 : World} {u v : Value} (h : SetAt B cols want Bc Bw Bo st W) (k : Kp W W1) (hbo : W1.heap[Bo]? = some (.cells #[u] 22 (0, 0))) (hS : Kd.S (Kd.slice 3 (Kd.int .i64)) 25 W1 B (fun _ => True) v st') :
    SetAt B cols want Bc Bw Bo st' (W1.setCell ⟨Bo, 0, none⟩ v) ∧ Kp W (W1.setCell ⟨Bo, 0, none⟩ v) := by
  have k1 : Kp W1 (W1.setCell ⟨Bo, 0, none⟩ v) := Kept.setCell (Kept.refl W1 _) (p := ⟨Bo, 0, none⟩) (.inl ⟨_, _, _, hbo, .inr rfl⟩) _
  have k2 := k.trans k1
  obtain ⟨h1, h2, _⟩ := h
  exact ⟨⟨h1.kp k2, k2.blk h2 (by decide) (by decide), v, box_put2 hbo, Kd.S_set hS hbo (by decide) 0 _⟩, k2⟩
theorem kp_grown {W W1 : World} {v : Value} (hg : W.grownBy W1 v.ownBlock) (ht : ∀ k, v.ownBlock = some k → ∃ cells, W.heap[k]? = some (.cells cells 25 (0, 0))) : Kp W W1 :=
  Kept.of_grown hg (Kept.refl W _) (fun k hk => by obtain ⟨cells, hc⟩ := ht k hk; exact .inl ⟨_, _, _, hc, .inl rfl⟩)
set_option maxHeartbeats 4000000
set_option maxRecDepth 100000
theorem set_visit (d : List (List Int)) (hd : d.length ≤ 60) (n want B Bc Bw Bo : Nat) (hle : B ≤ Bo) (st : List (List Int)) (hst : st.length ≤ 2000) (l : List Int) (hl : l.length ≤ 100) (hx : ∀ x ∈ l, 0 ≤ x ∧ x < (n : Int)) (A : Option Addr) (c : Nat) (W0 W : World)
    (hJ : SetAt B (colsOf n d) want Bc Bw Bo st W0) (hB : Below W0.heap.size W0 W) (hBW : B ≤ W0.heap.size) (hR : RowB W0.heap.size W A c l) (st2 : List (List Int)) (hs2 : (if decide (darkN d l = want) = true then st ++ [l] else st) = st2) (b : Bool) (hb : decide (st2.length > 2000) = b) :
    Calls Tryd.prog 64 #[.slice A l.length c, .pointer (some ⟨Bc, 0, none⟩), .pointer (some ⟨Bw, 0, none⟩), .pointer (some ⟨Bo, 0, none⟩)] W fun e w' => e = .returned (.bool b) ∧ SetAt B (colsOf n d) want Bc Bw Bo st2 w' ∧ Kp W w' ∧ Below B W w' := by
  have hJW := hJ.keep hB
  have HJ := Aside0.mk hJW
  obtain ⟨v, o0, hS0⟩ := hJ.o
  obtain ⟨A3, c3, rfl⟩ := Kd.S_slice hS0
  obtain ⟨A2, c2, a2, w2⟩ := hJW.c
  have a3 := hJW.w
  have o1 := (hB.block _ (blk_lt o0)).trans o0
  have k1 : W.cell? ⟨Bc, 0, none⟩ = some (.slice A2 (colsOf n d).length c2) := (blk_cell a2 0).trans rfl
  have k2 : W.cell? ⟨Bw, 0, none⟩ = some (.int .u64 (want : Int)) := (blk_cell a3 0).trans rfl
  have k3 : W.cell? ⟨Bo, 0, none⟩ = some (.slice A3 st.length c3) := (blk_cell o1 0).trans rfl
  have HC := Aside0.mk w2.reads.1
  have HCc := Aside0.mk w2.reads.2
  have HRr := Aside0.mk hR.at.reads
  have HD := Aside0.mk (dark_f n d hd l hx (by omega) (l.length + 1) (by omega))
  have HBO := Aside0.mk o1
  have HLB := Aside0.mk hle
  have HST := Aside0.mk hst
  have hb1 : decide ((2000 : Int) < (st2.length : Int)) = b := by
    rw [← hb]
    by_cases h : 2000 < st2.length
    · rw [decide_eq_true (show (2000 : Int) < (st2.length : Int) by omega), decide_eq_true (show st2.length > 2000 from h)]
    · rw [decide_eq_false (show ¬ (2000 : Int) < (st2.length : Int) by omega), decide_eq_false (show ¬ st2.length > 2000 from h)]
  have hb2 : decide (2000 < st2.length) = b := hb
  by_cases hq : darkN d l = want
  · rw [decide_eq_true hq, if_pos rfl] at hs2
    have z : ((darkN d l : Int) == (want : Int)) = true := by rw [hq]; simp
    have HS2 := Aside0.mk hs2
    have HM := Aside0.mk (show ∀ X : World, Below W.heap.size W X → (Kd.slice 3 (Kd.int .i64)).M X B (fun k => W0.heap.size ≤ k) l [.slice A l.length c] from fun X hX => ⟨_, rfl, Kd.R_below (R_int_mk0 (fun j hj => own_base hR j hj) (own_weaken hR hBW)) hX⟩)
    have HNe := Aside0.mk (show ∀ k, W0.heap.size ≤ k → (fun _ => True) k ∧ some k ≠ (Value.slice A3 st.length c3).ownBlock from fun k hk => ⟨trivial, fun e => by have := Kd.S_lt hS0 k e.symm; omega⟩)
    have HS := Aside0.mk (show ∀ X : World, Below W.heap.size W X → Kd.S (Kd.slice 3 (Kd.int .i64)) 25 X B (fun k => (fun _ => True) k ∧ ¬ (fun k => W0.heap.size ≤ k) k) (.slice A3 st.length c3) st from fun X hX => Kd.S_below (Kd.S_mono (Kd.S_old hS0 hB) (fun k h => ⟨trivial, fun h2 => by have := h.2; omega⟩)) hX)
    have HBs := Aside0.mk (Nat.le_trans hBW hB.size)
    clear hq hs2 hb hJ hB hR hS0 o0 o1 a2 a3 w2 hJW hl hx hst hd hle hBW
    go_enter Tryd.func64, Tryd.ntmps64
    go_wp2
    (go_quiet ((first | (go_at_call 48; exact Calls.quiet_of ((find_dark.calls (l.length + 1) A2 c2 (colsOf n d) A c l (darkN d l : Int) _ (Kd.C_drewN HC.out _) HCc.out (Kd.C_drewN HRr.out.1 _) HRr.out.2 HD.out).mono (by rintro e w' ⟨rfl, nd, rfl⟩; exact ⟨rfl, nd, rfl⟩))))))
    all_goals go_wp2_with (first | ((with_reducible refine gate_builtin (b := .append) (xs := #[.tmp 11, .tmp 13]) rfl ?_); at_builtin; refine Kd.S_append (Kd.slice 3 (Kd.int .i64)) (w0 := W) B rfl (.tmp 11) (.tmp 13) 22 25 (.slice none 0 0) 24 rfl Tryd.underlying22 info25 rfl (by decide) (by omega) (.slice A3 st.length c3) st l [.slice A l.length c] (fun _ => True) (fun k => W0.heap.size ≤ k) rfl rfl ?aP ?aK ?aF ?aO ?aB ?aS ?aL ?_; (case aP => exact HM.out _ (by repeat (first | exact Below.refl _ _ | apply pw_below_drewN | apply below_drew))); (case aK => exact HNe.out); (case aF => exact (fun _ _ => trivial)); (case aO => exact HS.out _ (by repeat (first | exact Below.refl _ _ | apply pw_below_drewN | apply below_drew))); (case aB => exact (by repeat (first | exact Below.refl _ _ | apply pw_below_drewN | apply below_drew))); (case aS => exact HBs.out); (case aL => have := HST.out; omega); intro v7 w7 ho hb hg hat; rw [HS2.out] at ho; obtain ⟨A7, c7, rfl⟩ := Kd.S_slice ho; have hbo7 := (hg.block Bo (blk_lt HBO.out) (Kd.S_ne (HS.out W (Below.refl _ _)) HBO.out (by decide))).trans HBO.out; have hc7 : w7.cell? ⟨Bo, 0, none⟩ = some (.slice A3 st.length c3) := (blk_cell hbo7 0).trans rfl; have hf7 := blk_frozen hbo7 0; have HP7 := Aside0.mk (HJ.out.put (show Kp W w7 from kp_grown (W := W.drewN _) hg (Kd.S_typed (HS.out _ (pw_below_drewN (Below.refl _ _) _)))) hbo7 ho); have HB7 := Aside0.mk hb; have hc8 : (w7.setCell ⟨Bo, 0, none⟩ (.slice A7 st2.length c7)).cell? ⟨Bo, 0, none⟩ = some (.slice A7 st2.length c7) := (blk_cell (box_put2 hbo7) 0).trans rfl; clear ho hb hg hat hbo7))
    go_ret
    exact ⟨rfl, HP7.out.1, HP7.out.2, HB7.out.setCell HLB.out _⟩
  · rw [decide_eq_false hq, if_neg (by decide)] at hs2
    have z : ((darkN d l : Int) == (want : Int)) = false := beq_eq_false_iff_ne.2 (by omega)
    subst hs2
    clear hq hb hJ hB hR hS0 o0 o1 a2 a3 w2 hJW hl hx hst hd hle hBW
    go_enter Tryd.func64, Tryd.ntmps64
    go_wp2
    (go_quiet ((first | (go_at_call 48; exact Calls.quiet_of ((find_dark.calls (l.length + 1) A2 c2 (colsOf n d) A c l (darkN d l : Int) _ (Kd.C_drewN HC.out _) HCc.out (Kd.C_drewN HRr.out.1 _) HRr.out.2 HD.out).mono (by rintro e w' ⟨rfl, nd, rfl⟩; exact ⟨rfl, nd, rfl⟩))))))
    all_goals go_wp2
    go_ret
    exact ⟨rfl, HJ.out.keep (by repeat (first | exact Below.refl _ _ | apply pw_below_drewN | apply below_drew)), Kp.of_below (by repeat (first | exact Below.refl _ _ | apply pw_below_drewN | apply below_drew)), by repeat (first | exact Below.refl _ _ | apply pw_below_drewN | apply below_drew)⟩
end Go.Proofs.YtglajokjiphafaaDoor.P

set_option linter.unusedSimpArgs false
set_option linter.unusedVariables false
namespace Go.Proofs.YtglajokjiphafaaDoor.P
open Go.RowKit Go.Proofs.YtglajokjiphafaaDoorW.PrintWords Go.Proofs.YtglajokjiphafaaDoorW.PrintLast Go.Proofs.YtglajokjiphafaaDoorW.PrintMore
open Go.Sort

/-- A row of the call's own, cut shorter. -/
theorem own_prefix {k : IntKind} {base g cap e n : Nat} {w : World} {xs : List Int} (m : Nat) (hm : m ≤ n) (h : w.ownsRow base e 1 (.slice (some ⟨g, 0, none⟩) n cap) n (nums k xs)) :
    w.ownsRow base e 1 (.slice (some ⟨g, 0, none⟩) m cap) m (nums k (xs.take m)) := by
  obtain ⟨hl, h⟩ := h
  rw [nums_length, Nat.mul_one] at hl
  rcases h with ⟨h1, _⟩ | ⟨g', cap', cur, h1, hb, hh, hn, hc, hs, ht⟩
  · cases h1
  · injection h1 with h1 h2 h3
    injection h1 with h1
    injection h1 with h1
    subst h1 h3
    refine ⟨by rw [nums_length, List.length_take]; omega, .inr ⟨g, cap, cur, rfl, hb, hh, by omega, hc, hs, ?_⟩⟩
    rw [Nat.mul_one] at ht ⊢
    have h4 : nums k (xs.take m) = (nums k xs).take m := by unfold nums; rw [List.map_take]
    rw [h4, ← ht, List.take_take, Nat.min_eq_left hm]
theorem compact_len (l : List Int) : (Lib.compact l).length ≤ l.length := by
  unfold Lib.compact Lib.compactUpTo
  rw [List.length_map]
  exact Nat.le_trans (List.length_filter_le _ _) (by rw [List.length_range]; exact Nat.le_refl _)
theorem compact_mem {l : List Int} {x : Int} : x ∈ Lib.compact l ↔ ∃ j, j < l.length ∧ (j = 0 ∨ Go.Proofs.YtglajokjiphafaaDoorW.PrintWords.rd l (j : Int) ≠ Go.Proofs.YtglajokjiphafaaDoorW.PrintWords.rd l ((j - 1 : Nat) : Int)) ∧ Go.Proofs.YtglajokjiphafaaDoorW.PrintWords.rd l (j : Int) = x := by
  unfold Lib.compact Lib.compactUpTo
  rw [List.mem_map]
  have e : ∀ j : Nat, l.toArray[j]! = Go.Proofs.YtglajokjiphafaaDoorW.PrintWords.rd l (j : Int) := fun j => by unfold Go.Proofs.YtglajokjiphafaaDoorW.PrintWords.rd; simp
  constructor
  · rintro ⟨j, hj, rfl⟩
    rw [List.mem_filter, List.mem_range] at hj
    refine ⟨j, hj.1, ?_, (e j).symm⟩
    have := hj.2
    unfold Lib.keeps at this
    rw [e, e] at this
    simpa using this
  · rintro ⟨j, hj, h, rfl⟩
    refine ⟨j, List.mem_filter.2 ⟨List.mem_range.2 hj, ?_⟩, e j⟩
    unfold Lib.keeps
    rw [e, e]
    simpa using h
theorem rd_sorted {l : List Int} (h : l.Pairwise (· ≤ ·)) {i j : Nat} (hij : i ≤ j) (hj : j < l.length) : Go.Proofs.YtglajokjiphafaaDoorW.PrintWords.rd l (i : Int) ≤ Go.Proofs.YtglajokjiphafaaDoorW.PrintWords.rd l (j : Int) := by
  rcases Nat.eq_or_lt_of_le hij with rfl | hlt
  · exact Int.le_refl _
  · have := List.pairwise_iff_getElem.1 h i j (by omega) hj hlt
    unfold Go.Proofs.YtglajokjiphafaaDoorW.PrintWords.rd
    simpa [hj, show i < l.length by omega] using this
theorem compact_asc {l : List Int} (h : l.Pairwise (· ≤ ·)) : (Lib.compact l).Pairwise (· < ·) := by
  unfold Lib.compact Lib.compactUpTo
  rw [List.pairwise_map]
  have e : ∀ j : Nat, l.toArray[j]! = Go.Proofs.YtglajokjiphafaaDoorW.PrintWords.rd l (j : Int) := fun j => by unfold Go.Proofs.YtglajokjiphafaaDoorW.PrintWords.rd; simp
  refine ((List.pairwise_lt_range (n := l.length)).filter _).imp_of_mem (fun {i j} hi hj hij => ?_)
  rw [List.mem_filter, List.mem_range] at hi hj
  have h2 := hj.2
  unfold Lib.keeps at h2
  rw [e, e] at h2
  have h3 : Go.Proofs.YtglajokjiphafaaDoorW.PrintWords.rd l (j : Int) ≠ Go.Proofs.YtglajokjiphafaaDoorW.PrintWords.rd l ((j - 1 : Nat) : Int) := by
    have : ¬ j = 0 := by omega
    simpa [this] using h2
  rw [e, e]
  have h4 := rd_sorted h (show i ≤ j - 1 by omega) (by omega)
  have h5 := rd_sorted h (show j - 1 ≤ j by omega) hj.1
  omega
theorem compact_all {l : List Int} (h : l.Pairwise (· ≤ ·)) {x : Int} : x ∈ Lib.compact l ↔ x ∈ l := by
  rw [compact_mem]
  have key : ∀ j, j < l.length → Go.Proofs.YtglajokjiphafaaDoorW.PrintWords.rd l (j : Int) = x → ∃ j, j < l.length ∧ (j = 0 ∨ Go.Proofs.YtglajokjiphafaaDoorW.PrintWords.rd l (j : Int) ≠ Go.Proofs.YtglajokjiphafaaDoorW.PrintWords.rd l ((j - 1 : Nat) : Int)) ∧ Go.Proofs.YtglajokjiphafaaDoorW.PrintWords.rd l (j : Int) = x := by
    intro j
    induction j with
    | zero => intro hj e; exact ⟨0, hj, .inl rfl, e⟩
    | succ j ih =>
      intro hj e
      by_cases h2 : Go.Proofs.YtglajokjiphafaaDoorW.PrintWords.rd l (j : Int) = x
      · exact ih (by omega) h2
      · exact ⟨j + 1, hj, .inr (by rw [e, show j + 1 - 1 = j from rfl]; exact fun h3 => h2 h3.symm), e⟩
  constructor
  · rintro ⟨j, hj, _, rfl⟩
    unfold Go.Proofs.YtglajokjiphafaaDoorW.PrintWords.rd
    simp [hj]
  · intro hx
    obtain ⟨j, hj, e⟩ := List.getElem_of_mem hx
    exact key j hj (by unfold Go.Proofs.YtglajokjiphafaaDoorW.PrintWords.rd; simp [hj, e])
theorem grow_none (w : World) : grow w #[] = w := by simp [grow]
def slices_Compact_int_int.f (l0 : List Int) : Option (List Int) := if l0.length < 4611686018427387904 then some (Lib.compact l0) else none
theorem slices_Compact_int_int.calls (P0_ : Nat → Prop) (u9000_ : Value) (l0 : List Int) (r : List Int) (w0 w : World) (hB : Below w0.heap.size w0 w) (ho0 : Kd.R (Kd.int .i64) 3 w w0.heap.size P0_ u9000_ l0) (h : slices_Compact_int_int.f l0 = some r) :
    Calls Tryd.prog 72 #[u9000_] w fun e w' => ∃ v0_, e = .returned v0_ ∧ Kd.R (Kd.int .i64) 3 w' w0.heap.size (fun k_ => (P0_ k_ ∨ w.heap.size ≤ k_)) v0_ r ∧ Below w0.heap.size w0 w' ∧ Kept w w' (fun k_ => P0_ k_) := by
  unfold slices_Compact_int_int.f at h
  split at h
  case isFalse => cases h
  rename_i hsz
  injection h with h
  subst h
  obtain ⟨h0, ho⟩ := R_int_own ho0
  have ho' := ho
  rcases ho'.2 with ⟨rfl, hn⟩ | ⟨g, cap, cur, rfl, hb, hh, hn, hc, hs, ht⟩
  · have : l0 = [] := List.eq_nil_of_length_eq_zero hn
    subst this
    refine (Tryd.slices_Compact_int_empty none 0 w).mono ?_
    rintro e w' ⟨rfl, rfl⟩
    exact ⟨_, rfl, Kd.R_nil _ _ _ _ _, hB, Kept.refl _ _⟩
  · obtain ⟨hH, hg⟩ := holds_of_own ho
    have hlen := compact_len l0
    refine (Tryd.slices_Compact_int g 0 cap l0 w hH (by omega) hn).mono ?_
    rintro e w' ⟨rfl, q, rfl⟩
    have hl2 : (Lib.compact l0 ++ List.replicate (l0.length - (Lib.compact l0).length) 0).length = l0.length := by simp; omega
    have h1 := own_put_row (m := q) (os := #[]) hl2 ho
    have h2 := own_prefix (Lib.compact l0).length (by omega) (by rw [hl2] at h1; exact h1)
    rw [List.take_left' rfl, grow_none] at h2
    have h3 := below_put_row (k := .i64) (m := q) (os := #[]) (d := (Lib.compact l0 ++ List.replicate (l0.length - (Lib.compact l0).length) 0).toArray) hB hb hB.size
    rw [grow_none] at h3
    have h4 := kept_put_row (k := .i64) (m := q) (os := #[]) (d := (Lib.compact l0 ++ List.replicate (l0.length - (Lib.compact l0).length) 0).toArray) (w := w) (S := P0_) (h0 g rfl)
    rw [grow_none] at h4
    exact ⟨_, rfl, R_int_mk (fun j hj => .inl (h0 j hj)) h2, h3, h4⟩
end Go.Proofs.YtglajokjiphafaaDoor.P

namespace Go.Proofs.YtglajokjiphafaaDoor.P
open Go.RowKit Go.Proofs.YtglajokjiphafaaDoorW.PrintWords Go.Proofs.YtglajokjiphafaaDoorW.PrintLast Go.Proofs.YtglajokjiphafaaDoorW.PrintMore
attribute [local go_sem] max2_int min2_int max_two min_two max_three min_three max_four min_four   -- for this text's walks alone
set_option linter.unusedVariables false
set_option linter.unusedSimpArgs false

/-! ### find_design_told: function 63 -/
def find_design_told.l0 : Nat → Int → List Bool → Int → Int → Int → List (List Int) → Option (Int × Bool × Int)
  | 0, _, _, _, _, _, _ => none
  | k + 1, x6, x18, x19, x20, x1000, x1001 => if x20 < x19 then (if 0 ≤ x20 then (if x20 < (x18.length : Int) then (if rdOf false x18 x20 = true then ((find_family.f x6 x20).bind fun t112 => (find_design_told.l0 k t112 x18 x19 (wrap64 (x20 + 1)) x1000 x1001)) else (find_design_told.l0 k x6 x18 x19 (wrap64 (x20 + 1)) x1000 x1001)) else (none)) else (none)) else (some (x6, true, x1000))
def find_design_told.f (k : Nat) (s0_0 : Int) (s0_1 : List (List Int)) (l1 : List Bool) : Option (Int × Bool × Int) := if (l1.length : Int) = (s0_1.length : Int) then (find_design_told.l0 k 0 l1 (l1.length : Int) 0 s0_0 s0_1) else (some (0, false, s0_0))
theorem find_design_told.mono_l : ∀ k, (∀ y0 y1 y2 y3 y4 y5, LeO (find_design_told.l0 k y0 y1 y2 y3 y4 y5) (find_design_told.l0 (k + 1) y0 y1 y2 y3 y4 y5))
  | 0 => fun _ _ _ _ _ _ r h => by simp [find_design_told.l0] at h
  | k + 1 => by
    have ih0 := find_design_told.mono_l k
    · intro y0 y1 y2 y3 y4 y5
      unfold find_design_told.l0
      repeat' first
      | (with_reducible exact ih0 _ _ _ _ _ _)
      | (with_reducible exact LeO.refl _)
      | (with_reducible exact LeO.none _)
      | (with_reducible refine LeO.ite ?_ ?_)
      | (with_reducible refine LeO.bind ?_ (fun _ => ?_))
      | exact ih0 _ _ _ _ _ _
      | exact LeO.none _
      | refine LeO.ite ?_ ?_
      | refine LeO.bind ?_ (fun _ => ?_)
theorem find_design_told.mono : ∀ a0 a1 a2 k, LeO (find_design_told.f k a0 a1 a2) (find_design_told.f (k + 1) a0 a1 a2) := by
  intro a0 a1 a2 k
  have ih0 := find_design_told.mono_l k
  unfold find_design_told.f
  repeat' first
      | (with_reducible exact ih0 _ _ _ _ _ _)
      | (with_reducible exact LeO.refl _)
      | (with_reducible exact LeO.none _)
      | (with_reducible refine LeO.ite ?_ ?_)
      | (with_reducible refine LeO.bind ?_ (fun _ => ?_))
      | exact ih0 _ _ _ _ _ _
      | exact LeO.none _
      | refine LeO.ite ?_ ?_
      | refine LeO.bind ?_ (fun _ => ?_)
set_option maxHeartbeats 8000000 in
set_option maxRecDepth 100000 in
theorem find_design_told.calls (k : Nat) (g : Nat) (s0_0 : Int) (s0_1 : List (List Int)) (A1 : Option Addr) (c1 : Nat) (l1 : List Bool) (r1 : Int) (r2 : Bool) (r3 : Int) (w0 w : World) (hI : IsS98 w0 w g s0_0 s0_1) (hB : Below w0.heap.size w0 w) (hr1 : Kd.C Kd.bool w A1 l1.length l1) (hc1 : l1.length ≤ c1) (hf1 : ∀ ad, A1 = some ad → 0 < l1.length → ad.block ≠ g) (h : find_design_told.f k s0_0 s0_1 l1 = some (r1, r2, r3)) :
    Calls Tryd.prog 63 #[.pointer (some ⟨g, 0, none⟩), .slice A1 l1.length c1] w fun e w' => e = .returned (.tuple #[.int .u64 r1, .bool r2]) ∧ IsS98 w0 w' g r3 s0_1 ∧ Below w0.heap.size w0 w' ∧ KeepBut w w' g none := by
  have HR1 := Aside0.mk hr1
  have HC1 := Aside0.mk hc1
  clear hr1 hc1
  have HI0 := Aside0.mk hI
  have HK := Aside0.mk (KeepBut.refl w g none)
  have HL := Aside0.mk hB.size
  clear hI
  have HW0 := Aside0.mk hB.size
  have HB := Aside0.mk hB
  clear hB
  have H : (if (l1.length : Int) = (s0_1.length : Int) then (find_design_told.l0 k 0 l1 (l1.length : Int) 0 s0_0 s0_1) else (some (0, false, s0_0))) = some (r1, r2, r3) := h
  clear h
  by_cases c3 : (l1.length : Int) = (s0_1.length : Int)
  · rw [if_pos c3] at H
    have c3b0 : ((l1.length : Int) == (s0_1.length : Int)) = true := beq_iff_eq.mpr c3
    have c3b1 : ((l1.length : Int) != (s0_1.length : Int)) = false := bne_eq_false_iff_eq.mpr c3
    have c3b2 : (l1.length == s0_1.length) = true := by first | simpa using c3 | (simp at c3 ⊢; omega)
    clear c3
    have H' := Aside0.mk H
    clear H
    obtain ⟨ASz4_1, cSz4_1, HGz4, hgz4, HSz4_1⟩ := HI0.out
    have hcz4_0 := cellS98_0 HGz4
    have hcz4_1 := cellS98_1 HGz4
    have hfz4_0 := blk_frozen HGz4 0
    clear HGz4 hgz4
    go_enter Tryd.func63, Tryd.ntmps63
    go_wp2
    go_loopg [6, 20] k (fun kq v6 v20 w' => ∃ (x6_1 : Int) (x20_1 : Int), v6 = .int .u64 x6_1 ∧ v20 = .int .i64 x20_1 ∧ Aside0 (find_design_told.l0 kq x6_1 l1 (l1.length : Int) x20_1 s0_0 s0_1 = some (r1, r2, r3)) ∧ Aside0 (kq ≤ k) ∧ Aside0 (IsS98 w0 w' g s0_0 s0_1) ∧ Aside0 (KeepBut w w' g none) ∧ Aside0 (Below w0.heap.size w0 w'))
    case atStart => exact ⟨(0), (0), (by first | rfl | (simp; done) | (simp [*]; done)), (by first | rfl | (simp; done) | (simp [*]; done)), H', ⟨Nat.le_refl _⟩, ⟨by repeat (first | (with_reducible first | exact HI0.out | apply IsS98.alloc | apply IsS98.drewN | apply IsS98.drew | apply IsS98.set_0) | exact HI0.out)⟩, ⟨by repeat (first | (with_reducible first | exact HK.out | apply KeepBut.set_ | apply keep_drewN | apply keep_drew | apply keep_alloc) | exact HK.out)⟩, ⟨by repeat (first | (with_reducible first | exact HB.out | apply below_alloc | apply pw_below_drewN | apply below_drew1 | refine below_set ?_ (IsS98.ge HI0.out)) | exact HB.out)⟩⟩
    case round =>
      clear H'
      try clear c1
      try clear p2
      try clear c3
      try clear c3b0
      try clear c3b1
      try clear c3b2
      try clear hcz4_0
      try clear hcz4_1
      try clear hfz4_0
      obtain ⟨x6_1, x20_1, rfl, rfl, HA, HK1, HI0, HK, HB⟩ := hrel
      cases gk with
      | zero => exact absurd HA.out (by simp [find_design_told.l0])
      | succ k1 =>
        have H := HA.out
        clear HA
        simp only [find_design_told.l0] at H
        by_cases c5 : x20_1 < (l1.length : Int)
        · rw [if_pos c5] at H
          have c5b0 : decide (x20_1 < (l1.length : Int)) = true := decide_eq_true c5
          clear c5
          by_cases c6 : 0 ≤ x20_1
          · rw [if_pos c6] at H
            have c6b0 : decide (0 ≤ x20_1) = true := decide_eq_true c6
            clear c6
            by_cases c7 : x20_1 < (l1.length : Int)
            · rw [if_pos c7] at H
              have c7b0 : decide (x20_1 < (l1.length : Int)) = true := decide_eq_true c7
              clear c7
              obtain ⟨bq8, hbq8⟩ : ∃ b_ : Bool, b_ = (rdOf false l1 x20_1) := ⟨_, rfl⟩
              replace H : (if bq8 = true then ((find_family.f x6_1 x20_1).bind fun t112 => (find_design_told.l0 k1 t112 l1 (l1.length : Int) (wrap64 (x20_1 + 1)) s0_0 s0_1)) else (find_design_told.l0 k1 x6_1 l1 (l1.length : Int) (wrap64 (x20_1 + 1)) s0_0 s0_1)) = some (r1, r2, r3) := by rw [← hbq8] at H; exact H
              have Nbq8 := Aside0.mk hbq8
              clear hbq8
              by_cases c9 : bq8 = true
              · subst c9
                have H1 : ((find_family.f x6_1 x20_1).bind fun t112 => (find_design_told.l0 k1 t112 l1 (l1.length : Int) (wrap64 (x20_1 + 1)) s0_0 s0_1)) = some (r1, r2, r3) := by rw [if_pos rfl] at H; exact H
                clear H
                have H := H1
                clear H1
                replace H := Option.bind_eq_some_iff.mp H
                obtain ⟨t112, A100, H⟩ := H
                replace H : (find_design_told.l0 k1 t112 l1 (l1.length : Int) (wrap64 (x20_1 + 1)) s0_0 s0_1) = some (r1, r2, r3) := H
                have A10 := Aside0.mk A100
                clear A100
                have H' := Aside0.mk H
                clear H
                have p111 : 0 ≤ (x20_1 : Int) := of_decide_eq_true (by first | (with_reducible assumption) | assumption)
                have q111 : x20_1 < (l1.length : Int) := of_decide_eq_true (by first | (with_reducible assumption) | assumption)
                obtain ⟨ad111, e111, hx111_0⟩ := Kd.at_bool HR1.out x20_1 p111 q111
                (try rw [← Nbq8.out] at hx111_0)
                cases e111
                replace hx111_0 := keep_cell HK.out hx111_0 (by first | (rw [add_block]; exact hf1 _ rfl (by omega)) | exact hf1 _ rfl (by omega) | exact hf1 ad111 rfl (by omega))
                replace p111 := eq_true p111
                replace q111 := eq_true q111
                go_wp2_with (first | ((with_reducible refine gate_callee (f := 76) rfl ?_); refine goesL_ (some 28) rfl rfl Tryd.func76 (by kernel_rfl) rfl #[.int .u64 x6_1, .int .i64 x20_1] rfl (by (try simp only [List.map_toArray, List.map_cons, List.map_nil]); first | done | rfl | (simp only [List.length_drop, List.length_take]; rfl)) ?_; (with_reducible refine (find_family.calls x6_1 x20_1 t112 _ A10.out).mono ?_); rintro e w' ⟨rfl, ⟨nd, rfl⟩⟩; refine ⟨_, rfl, ?_⟩))
                go_roundg k1
                case measure => have := HK1.out; omega
                case rel => exact ⟨(t112), (wrap64 (x20_1 + 1)), (by first | rfl | (simp; done) | (simp [*]; done)), (by first | rfl | (simp; done) | (simp [*]; done)), H', ⟨by have := HK1.out; omega⟩, ⟨by repeat (first | (with_reducible first | exact HI0.out | apply IsS98.alloc | apply IsS98.drewN | apply IsS98.drew | apply IsS98.set_0) | exact HI0.out)⟩, ⟨by repeat (first | (with_reducible first | exact HK.out | apply KeepBut.set_ | apply keep_drewN | apply keep_drew | apply keep_alloc) | exact HK.out)⟩, ⟨by repeat (first | (with_reducible first | exact HB.out | apply below_alloc | apply pw_below_drewN | apply below_drew1 | refine below_set ?_ (IsS98.ge HI0.out)) | exact HB.out)⟩⟩
              · replace c9 := Bool.eq_false_iff.mpr c9
                subst c9
                have H1 : (find_design_told.l0 k1 x6_1 l1 (l1.length : Int) (wrap64 (x20_1 + 1)) s0_0 s0_1) = some (r1, r2, r3) := by rw [if_neg (show ¬ (false = true) by decide)] at H; exact H
                clear H
                have H := H1
                clear H1
                have H' := Aside0.mk H
                clear H
                have p111 : 0 ≤ (x20_1 : Int) := of_decide_eq_true (by first | (with_reducible assumption) | assumption)
                have q111 : x20_1 < (l1.length : Int) := of_decide_eq_true (by first | (with_reducible assumption) | assumption)
                obtain ⟨ad111, e111, hx111_0⟩ := Kd.at_bool HR1.out x20_1 p111 q111
                (try rw [← Nbq8.out] at hx111_0)
                cases e111
                replace hx111_0 := keep_cell HK.out hx111_0 (by first | (rw [add_block]; exact hf1 _ rfl (by omega)) | exact hf1 _ rfl (by omega) | exact hf1 ad111 rfl (by omega))
                replace p111 := eq_true p111
                replace q111 := eq_true q111
                go_wp2
                go_roundg k1
                case measure => have := HK1.out; omega
                case rel => exact ⟨(x6_1), (wrap64 (x20_1 + 1)), (by first | rfl | (simp; done) | (simp [*]; done)), (by first | rfl | (simp; done) | (simp [*]; done)), H', ⟨by have := HK1.out; omega⟩, ⟨by repeat (first | (with_reducible first | exact HI0.out | apply IsS98.alloc | apply IsS98.drewN | apply IsS98.drew | apply IsS98.set_0) | exact HI0.out)⟩, ⟨by repeat (first | (with_reducible first | exact HK.out | apply KeepBut.set_ | apply keep_drewN | apply keep_drew | apply keep_alloc) | exact HK.out)⟩, ⟨by repeat (first | (with_reducible first | exact HB.out | apply below_alloc | apply pw_below_drewN | apply below_drew1 | refine below_set ?_ (IsS98.ge HI0.out)) | exact HB.out)⟩⟩
            · rw [if_neg c7] at H
              exact absurd H (by simp)
          · rw [if_neg c6] at H
            exact absurd H (by simp)
        · rw [if_neg c5] at H
          have c5b0 : decide (x20_1 < (l1.length : Int)) = false := decide_eq_false c5
          clear c5
          simp only [Option.some.injEq, Prod.mk.injEq] at H
          obtain ⟨rfl, rfl, rfl⟩ := H
          go_wp2
          go_ret2
          exact ⟨by first | rfl | (simp [errW_none, errW_some] <;> rfl) | (simp [*, errW_none, errW_some] <;> rfl), by repeat (first | (with_reducible first | exact HI0.out | apply IsS98.alloc | apply IsS98.drewN | apply IsS98.drew | apply IsS98.set_0) | exact HI0.out), by repeat (first | (with_reducible first | exact HB.out | apply below_alloc | apply pw_below_drewN | apply below_drew1 | refine below_set ?_ (IsS98.ge HI0.out)) | exact HB.out), by repeat (first | (with_reducible first | exact HK.out | apply KeepBut.set_ | apply keep_drewN | apply keep_drew | apply keep_alloc) | exact HK.out)⟩
  · rw [if_neg c3] at H
    have c3b0 : ((l1.length : Int) == (s0_1.length : Int)) = false := beq_eq_false_iff_ne.mpr c3
    have c3b1 : ((l1.length : Int) != (s0_1.length : Int)) = true := bne_iff_ne.mpr c3
    have c3b2 : (l1.length == s0_1.length) = false := by first | simpa using c3 | (simp at c3 ⊢; omega)
    simp only [Option.some.injEq, Prod.mk.injEq] at H
    obtain ⟨rfl, rfl, rfl⟩ := H
    obtain ⟨ASz11_1, cSz11_1, HGz11, hgz11, HSz11_1⟩ := HI0.out
    have hcz11_0 := cellS98_0 HGz11
    have hcz11_1 := cellS98_1 HGz11
    have hfz11_0 := blk_frozen HGz11 0
    clear HGz11 hgz11
    go_enter Tryd.func63, Tryd.ntmps63
    go_wp2
    go_ret2
    exact ⟨by first | rfl | (simp [errW_none, errW_some] <;> rfl) | (simp [*, errW_none, errW_some] <;> rfl), by repeat (first | (with_reducible first | exact HI0.out | apply IsS98.alloc | apply IsS98.drewN | apply IsS98.drew | apply IsS98.set_0) | exact HI0.out), by repeat (first | (with_reducible first | exact HB.out | apply below_alloc | apply pw_below_drewN | apply below_drew1 | refine below_set ?_ (IsS98.ge HI0.out)) | exact HB.out), by repeat (first | (with_reducible first | exact HK.out | apply KeepBut.set_ | apply keep_drewN | apply keep_drew | apply keep_alloc) | exact HK.out)⟩

end Go.Proofs.YtglajokjiphafaaDoor.P

set_option linter.unusedSimpArgs false
set_option linter.unusedVariables false
namespace Go.Proofs.YtglajokjiphafaaDoor.P
open Go.Lib Go.RowKit Go.Proofs.YtglajokjiphafaaDoorW.PrintWords Go.Proofs.YtglajokjiphafaaDoorW.PrintLast Go.Proofs.YtglajokjiphafaaDoorW.PrintMore Go.Proofs.YtglajokjiphafaaDoor.Kit
open Go.Sort
attribute [local go_sem] max2_int min2_int max_two min_two max_three min_three max_four min_four

theorem told_l0 (ls : List (List Int)) (o : List Bool) (ho : o.length ≤ 60) (m : Int) : ∀ d i, o.length - i = d → i ≤ o.length →
    Ev (fun k => find_design_told.l0 k (toldN (o.take i) : Int) o (o.length : Int) (i : Int) m ls) ((toldN o : Int), true, m) := by
  intro d
  induction d with
  | zero =>
    intro i hd hi
    have hie : i = o.length := by omega
    subst hie
    rw [List.take_length]
    refine Ev.step (fun k => ?_) (Ev.now ((toldN o : Int), true, m))
    simp only [find_design_told.l0]
    rw [if_neg (by omega)]
  | succ d ih =>
    intro i hd hi
    have hlt : i < o.length := by omega
    have ht : o.take (i + 1) = o.take i ++ [o[i]] := (List.take_succ_eq_append_getElem hlt)
    have hl : (o.take i).length = i := by rw [List.length_take]; omega
    have hrd : rdOf false o (i : Int) = o[i] := by unfold rdOf; simp [List.getD_eq_getElem?_getD, hlt]
    have h1 := ih (i + 1) (by omega) (by omega)
    rw [ht, toldN_snoc, hl] at h1
    have hw := wrap1 (i := i) (by omega)
    have ha := toldN_lt64 (l := o.take i) (by omega)
    refine Ev.step (fun k => ?_) h1
    simp only [find_design_told.l0]
    rw [if_pos (by omega), if_pos (by omega), if_pos (by omega), hrd]
    cases hb : o[i] with
    | true =>
      rw [if_pos rfl, if_pos rfl]
      unfold find_family.f
      rw [if_pos (by omega), Option.bind_some, shlu (by omega), oru _ _ ha (pow_lt64 (by omega)), hw]
    | false =>
      rw [if_neg (by decide), if_neg (by decide), Nat.or_zero, hw]
theorem told_ev (ls : List (List Int)) (o : List Bool) (ho : ls.length ≤ 60) (m : Int) : Ev (fun k => find_design_told.f k m ls o) (if o.length = ls.length then ((toldN o : Int), true, m) else (0, false, m)) := by
  by_cases h : o.length = ls.length
  · rw [if_pos h]
    have := told_l0 ls o (by omega) m o.length 0 (by omega) (by omega)
    rw [List.take_zero] at this
    refine Ev.congr (fun k => ?_) this
    unfold find_design_told.f
    rw [if_pos (by omega)]
    rfl
  · rw [if_neg h]
    refine Ev.congr (fun k => ?_) (Ev.now (0, false, m))
    unfold find_design_told.f
    rw [if_neg (by omega)]
theorem row_of_R {base e : Nat} {ok : Nat → Prop} {w : World} {v : Value} {xs : List Int} (h : (Kd.int .i64).R 3 w base ok v xs) : ∃ A c, v = .slice A xs.length c ∧ RowAt w A c xs := by
  have ho := R_int_own1 h
  obtain ⟨A, c, rfl⟩ := own_slice ho
  exact ⟨A, c, rfl, own_weaken ho (Nat.zero_le _)⟩
set_option maxHeartbeats 4000000
set_option maxRecDepth 100000
theorem clone_calls (A : Option Addr) (c : Nat) (l : List Int) (w : World) (h : Kd.C (Kd.int .i64) w A l.length l) (hl : l.length ≤ 1000) :
    Calls Tryd.prog 69 #[.slice A l.length c] w fun e w' => ∃ v, e = .returned v ∧ Kd.R (Kd.int .i64) 3 w' w.heap.size (fun _ => True) v l ∧ Below w.heap.size w w' := by
  cases A with
  | none =>
    have : l.length = 0 := by
      rcases Nat.eq_zero_or_pos l.length with h0 | h0
      · exact h0
      · obtain ⟨ad, e, _⟩ := h.2.2 h0; cases e
    have hl0 : l = [] := List.length_eq_zero_iff.1 this
    subst hl0
    refine (Tryd.slices_Clone_int_nil _ c w).mono ?_
    rintro e w' ⟨rfl, rfl⟩
    exact ⟨_, rfl, Kd.R_nil _ _ _ _ _, Below.refl _ _⟩
  | some a =>
    rcases Nat.eq_zero_or_pos l.length with h0 | h0
    · have hl0 : l = [] := List.length_eq_zero_iff.1 h0
      subst hl0
      refine (Tryd.slices_Clone_int_zero a c w).mono ?_
      rintro e w' ⟨v, rfl, ho, _, hb⟩
      exact ⟨v, rfl, R_int_mk (fun _ _ => trivial) ho, hb⟩
    · have hcell : ∀ j, j < l.length → w.cell? (a.add j) = some (.int .i64 (l.getD j 0)) := by
        intro j hj
        obtain ⟨ad', e', h1⟩ := Kd.at_int h (j : Int) (by omega) (by omega)
        injection e' with e'
        subst e'
        rw [rd_get l j hj, Int.toNat_natCast] at h1
        rw [h1]
        simp [List.getD_eq_getElem?_getD, hj]
      have hs : a.spot = none := by
        have h1 := hcell 0 h0
        have hadd : a.add 0 = a := by simp [Addr.add]
        rw [hadd] at h1
        unfold World.cell? at h1
        split at h1
        · split at h1
          · cases h1
          · rename_i h; simpa using h
        · cases h1
      obtain ⟨b, off, sp⟩ := a
      dsimp only at hs
      subst hs
      refine (Tryd.slices_Clone_int b off l.length c l w (Nat.le_refl _) (by omega) (fun j hj => ?_)).mono ?_
      · rw [← hcell j hj]
        unfold Addr.add
        by_cases e : j = 0
        · rw [if_pos e, e]; rfl
        · rw [if_neg e]
      · rintro e w' ⟨v, rfl, ho, _, hb⟩
        rw [List.take_of_length_le (Nat.le_refl _)] at ho
        exact ⟨v, rfl, R_int_mk (fun _ _ => trivial) ho, hb⟩
theorem cl1_calls (Bc : Nat) (A : Option Addr) (c : Nat) (cl : List Int) (x : Int) (W : World) (hc : W.cell? ⟨Bc, 0, none⟩ = some (.slice A cl.length c)) (hR : RowAt W A c cl) :
    FnGives Tryd.prog 70 #[.pointer (some ⟨Bc, 0, none⟩)] #[.int .i64 x] (.bool (cl.contains x)) W := by
  obtain ⟨b, hb⟩ : ∃ b, cl.contains x = b := ⟨_, rfl⟩
  rw [hb]
  have HC := fun W' (h : RowAt W' A c cl) => contains_calls A c cl x b W' h hb
  have HR := Aside0.mk hR
  show Calls _ _ #[.int .i64 x, .pointer (some ⟨Bc, 0, none⟩)] W _
  clear hb hR
  go_enter Tryd.func70, Tryd.ntmps70
  go_wp2_with (go_at_call 47; (refine (HC _ (by first | exact HR.out | exact HR.out.kp (Kp.of_below (pw_below_drewN (Below.refl _ _) _)))).mono ?_); rintro e w' ⟨rfl, rfl⟩)
  go_ret
  first | exact ⟨rfl, _, rfl⟩ | exact ⟨rfl, 0, rfl⟩
theorem DeleteFunc_nil (fv : Value) (w : World) : Calls Tryd.prog 68 #[.slice none 0 0, fv] w fun e w' => e = .returned (.slice none 0 0) ∧ w' = w := by
  have HI := fun W => Tryd.slices_IndexFunc_empty_f91 (α := Int) none 0 fv W
  go_enter Tryd.func68, Tryd.ntmps68
  go_wp2_with (go_at_call 91; (refine (HI _).mono ?_); rintro e w' ⟨rfl, rfl⟩)
  go_ret
  exact ⟨rfl, rfl⟩
theorem del_calls (Bc : Nat) (cl : List Int) (vc : Value) (bc : Nat) (okc : Nat → Prop) (u : Value) (l : List Int) (w0 w : World) (hB : Below w0.heap.size w0 w) (ho : Kd.R (Kd.int .i64) 3 w w0.heap.size (fun _ => True) u l) (hbx : w0.cell? ⟨Bc, 0, none⟩ = some vc) (hRc : Kd.R (Kd.int .i64) 3 w0 bc okc vc cl) (hl : l.length ≤ 1000) :
    Calls Tryd.prog 68 #[u, .func (.func 70) #[] #[.pointer (some ⟨Bc, 0, none⟩)]] w fun e w' => ∃ v, e = .returned v ∧ Kd.R (Kd.int .i64) 3 w' w0.heap.size (fun _ => True) v (leftL cl l) ∧ Below w0.heap.size w0 w' := by
  obtain ⟨Ac, cc, rfl, hRa⟩ := row_of_R (e := 3) hRc
  have key : ∀ W, Below w0.heap.size w0 W → ∀ x : Int, FnGives Tryd.prog 70 #[.pointer (some ⟨Bc, 0, none⟩)] #[.int .i64 x] (.bool (cl.contains x)) W := fun W hW x =>
    cl1_calls Bc Ac cc cl x W ((hW.cell (World.block_lt_of_cell? w0 _ hbx)).trans hbx) (hRa.kp (Kp.of_below hW))
  obtain ⟨h0, ho'⟩ := R_int_own ho
  have ho2 := ho'
  rcases ho2.2 with ⟨rfl, hn⟩ | ⟨g, cap, cur, rfl, hb, hh, hn, hc, hs, ht⟩
  · have : l = [] := List.eq_nil_of_length_eq_zero hn
    subst this
    refine (DeleteFunc_nil _ w).mono ?_
    rintro e w' ⟨rfl, rfl⟩
    exact ⟨_, rfl, Kd.R_nil _ _ _ _ _, hB⟩
  · obtain ⟨hH, hg⟩ := holds_of_own ho'
    have hO : OneCell (Value.int .i64) := fun _ => rfl
    have hsub : Below w0.heap.size w0 w := hB
    have hlen : (leftL cl l).length ≤ l.length := List.length_filter_le _ _
    refine (Tryd.slices_DeleteFunc (Value.int .i64) hO (fun x => cl.contains x) 70 #[.pointer (some ⟨Bc, 0, none⟩)] (enters_of Tryd.func70 (by kernel_rfl) rfl) 0 (fun _ => rfl) g 0 cap l.toArray w (fun W x hW => key W (hB.trans (hW.mono hB.size)) x) (fun n os dk x hdk => key _ (below_put_row hB hb hB.size) x) hH (by simp; omega) (by simp; omega)).mono ?_
    rintro e w' ⟨rfl, q, rfl⟩
    have hl2 : (leftL cl l ++ List.replicate (l.length - (leftL cl l).length) 0).length = l.length := by simp; omega
    have h1 := own_put_row (m := q) (os := #[]) hl2 ho'
    have h2 := own_prefix (leftL cl l).length (by omega) (by rw [hl2] at h1; exact h1)
    rw [List.take_left' rfl, grow_none] at h2
    have h3 := below_put_row (k := .i64) (m := q) (os := #[]) (d := (leftL cl l ++ List.replicate (l.length - (leftL cl l).length) 0).toArray) hB hb hB.size
    rw [grow_none] at h3
    exact ⟨_, rfl, R_int_mk (fun _ _ => trivial) h2, h3⟩
end Go.Proofs.YtglajokjiphafaaDoor.P

set_option linter.unusedSimpArgs false
set_option linter.unusedVariables false
namespace Go.Proofs.YtglajokjiphafaaDoor.P
open Go.Lib Go.RowKit Go.Proofs.YtglajokjiphafaaDoorW.PrintWords Go.Proofs.YtglajokjiphafaaDoorW.PrintLast Go.Proofs.YtglajokjiphafaaDoorW.PrintMore Go.Proofs.YtglajokjiphafaaDoor.Kit
attribute [local go_sem] max2_int min2_int max_two min_two max_three min_three max_four min_four

theorem C_blockB {w : World} {A : Option Addr} {l : List Bool} (h : Kd.C Kd.bool w A l.length l) : ∀ ad, A = some ad → 0 < l.length → ad.block < w.heap.size := by
  rintro ad rfl h0
  obtain ⟨ad', e, hc⟩ := h.2.2 h0
  injection e with e
  subst e
  obtain ⟨c, hs, hr, hcell⟩ := hc 0 _ (List.getElem?_eq_getElem h0)
  have h1 : 0 < c.length := by rw [hs]; exact Nat.zero_lt_one
  have h2 := hcell 0 _ (List.getElem?_eq_getElem h1)
  have hadd : ad.add 0 = ad := by simp [Addr.add]
  rw [show 0 * Kd.bool.sz + 0 = 0 by omega, hadd] at h2
  exact World.block_lt_of_cell? w _ h2
/-- The sets with these outcomes, in the order of the dictionary. -/
def setR (n M : Nat) (d : List (List Int)) (o : List Bool) : List (List Int) := (pre n M 0).filter fun l => decide (outB d l = o)
def setsP (n : Int) (d : List (List Int)) (o : List Bool) (most : Int) : List (List Int) × Int :=
  if ofN n d = 0 then (if o.length = d.length ∧ 0 ≤ most ∧ most ≤ 3 then (if (setR n.toNat most.toNat d o).length ≤ 2000 then (setR n.toNat most.toNat d o, 0) else ([], 8)) else ([], 2)) else ([], ofN n d)
def byN (n m : Nat) : List (List Int) := (List.range m).flatMap fun j => cmb n j 0
theorem byN_succ (n m : Nat) : byN n (m + 1) = byN n m ++ cmb n m 0 := by
  unfold byN
  rw [List.range_succ, List.flatMap_append]
  simp
theorem byN_le (n : Nat) (q : List Int → Bool) (m : Nat) : ∀ e, ((byN n m).filter q).length ≤ ((byN n (m + e)).filter q).length
  | 0 => Nat.le_refl _
  | e + 1 => by
    have h := byN_le n q m e
    rw [← Nat.add_assoc, byN_succ, List.filter_append, List.length_append]
    omega
def qD (d : List (List Int)) (o : List Bool) (l : List Int) : Bool := decide (darkN d l = toldN o)
theorem qD_eq (d : List (List Int)) (o : List Bool) (h : o.length = d.length) : qD d o = fun l => decide (outB d l = o) := by
  funext l
  exact dark_same d l o h
def SetsPost (n : Int) (ls : List (List Int)) (o : List Bool) (most : Int) (w : World) (e : Ending) (w' : World) : Prop :=
  ∃ v0_ : Value, e = .returned (.tuple #[v0_, .int .i64 (setsP n ls o most).2]) ∧ Kd.S (Kd.slice 3 (Kd.int .i64)) 25 w' w.heap.size (fun _ => True) v0_ (setsP n ls o most).1 ∧ Below w.heap.size w w'
theorem set_visits (d : List (List Int)) (hd : d.length ≤ 60) (o : List Bool) (n many B Bc Bw Bo : Nat) (hm : many ≤ 100) (hle : B ≤ Bo) :
    Visits (setO (qD d o)) n many (SetAt B (colsOf n d) (toldN o) Bc Bw Bo) B 64 #[.pointer (some ⟨Bc, 0, none⟩), .pointer (some ⟨Bw, 0, none⟩), .pointer (some ⟨Bo, 0, none⟩)] where
  eg := enters_of Tryd.func64 (by kernel_rfl) rfl
  le := fun st W h => by
    obtain ⟨v, h1, _⟩ := h.o
    have := blk_lt h1
    omega
  keep := fun st W W' h hb => h.keep hb
  visit := fun st st' b l A c W0 W hs hl hx hJ hB hR => by
    unfold setO at hs
    by_cases h : st.length ≤ 2000
    · rw [if_pos h] at hs
      injection hs with hs
      have hBW : B ≤ W0.heap.size := by
        obtain ⟨v, h1, _⟩ := hJ.o
        have := blk_lt h1
        omega
      have h1 : (setS (qD d o) st l).1 = st' := by rw [hs]
      have h2 : (setS (qD d o) st l).2 = b := by rw [hs]
      exact set_visit d hd n (toldN o) B Bc Bw Bo hle st h l (by omega) hx A c W0 W hJ hB hBW hR st' h1 b (by rw [← h1]; exact h2)
    · rw [if_neg h] at hs; cases hs
set_option maxHeartbeats 4000000
set_option maxRecDepth 100000
theorem set_subsets (d : List (List Int)) (hd : d.length ≤ 60) (o : List Bool) (n many B Bc Bw Bo : Nat) (hn : n ≤ 100) (hm : many ≤ 100) (hle : B ≤ Bo) (st : List (List Int)) (hst : st.length ≤ 2000) (W : World) (hJ : SetAt B (colsOf n d) (toldN o) Bc Bw Bo st W) (s : List (List Int)) (b : Bool) (hg : setG (qD d o) st (cmb n many 0) = (s, b)) :
    Calls Tryd.prog 45 #[.int .i64 (n : Int), .int .i64 (many : Int), .func (.func 64) #[] #[.pointer (some ⟨Bc, 0, none⟩), .pointer (some ⟨Bw, 0, none⟩), .pointer (some ⟨Bo, 0, none⟩)]] W
      fun e w' => e = .returned (.bool b) ∧ SetAt B (colsOf n d) (toldN o) Bc Bw Bo s w' ∧ Below B W w' := by
  have hs := subs_setO (qD d o) n many st [] 0 hst
  rw [show (cmb n many 0).map (([] : List Int) ++ ·) = cmb n many 0 by simp, hg] at hs
  refine (subsets_calls (set_visits d hd o n many B Bc Bw Bo hm hle) hn hm st s b W hs hJ).mono ?_
  rintro e w' ⟨he, h1, h2, h3⟩
  exact ⟨he, h1, h3⟩
theorem sets_no (n : Int) (A1 : Option Addr) (c1 : Nat) (ls : List (List Int)) (A2 : Option Addr) (c2 : Nat) (o : List Bool) (most : Int) (w : World) (hr1 : Kd.C (Kd.slice 3 (Kd.int .i64)) w A1 ls.length ls) (hr2 : Kd.C Kd.bool w A2 o.length o) (hc2 : o.length ≤ c2) (h : ofN n ls ≠ 0 ∨ ¬ (o.length = ls.length ∧ 0 ≤ most ∧ most ≤ 3)) :
    Calls Tryd.prog 37 #[.int .i64 n, .slice A1 ls.length c1, .slice A2 o.length c2, .int .i64 most] w (SetsPost n ls o most w) := by
  by_cases h0 : ofN n ls = 0
  · have hD : ¬ (o.length = ls.length ∧ 0 ≤ most ∧ most ≤ 3) := by rcases h with h | h; exact absurd h0 h; exact h
    have HP := Aside0.mk (show setsP n ls o most = ([], 2) by unfold setsP; rw [if_pos h0, if_neg hD])
    have HO := Aside0.mk (of_ok n A1 c1 ls w hr1 h0)
    have HR2 := Aside0.mk hr2
    have HC2 := Aside0.mk hc2
    have HBk := Aside0.mk (C_blockB hr2)
    have ht := told_ev ls o (ofN_ok h0).2.1 n
    by_cases hol : o.length = ls.length
    · rw [if_pos hol] at ht
      obtain ⟨k, hk⟩ := ht.rounds
      have HT := Aside0.mk hk
      have HF := Aside0.mk (decide_eq_false (show ¬ (0 ≤ most ∧ most ≤ 3) from fun h => hD ⟨hol, h⟩))
      clear h h0 hD hr1 hr2 hc2 ht hk hol
      go_enter Tryd.func37, Tryd.ntmps37
      go_wp2_with (first | (go_at_call 42; (with_reducible refine (HO.out).mono ?_); rintro e w1 ⟨g, rfl, hI, hb⟩; have HB := Aside0.mk hb; have HI := Aside0.mk hI; clear hI hb) | (go_at_call 63; (refine (find_design_told.calls k g n ls A2 c2 o (toldN o : Int) true n w _ (by first | exact HI.out | exact HI.out.drewN _) (by first | exact HB.out | exact pw_below_drewN HB.out _) (by repeat (first | exact (Kd.C_below HR2.out HB.out) | (with_reducible refine Kd.C_alloc ?_ _) | (with_reducible refine Kd.C_drewN ?_ _) | (with_reducible refine Kd.C_drew ?_))) HC2.out (fun ad e h => by have := HBk.out ad e h; have := HI.out.ge; omega) HT.out).mono ?_); rintro e w2 ⟨rfl, _, hb2, _⟩; have HB2 := Aside0.mk hb2; clear hb2) | (go_at_call 43; (with_reducible refine (few_calls most false _ HF.out).mono ?_); rintro e w' ⟨rfl, ⟨nd, rfl⟩⟩))
      go_ret2
      exact ⟨_, by rw [HP.out]; rfl, by rw [HP.out]; exact Kd.S_nil _ _ _ _ _, by repeat (first | exact HB2.out | apply below_alloc | apply pw_below_drewN | apply below_drew1)⟩
    · rw [if_neg hol] at ht
      obtain ⟨k, hk⟩ := ht.rounds
      have HT := Aside0.mk hk
      clear h h0 hD hr1 hr2 hc2 ht hk hol
      go_enter Tryd.func37, Tryd.ntmps37
      go_wp2_with (first | (go_at_call 42; (with_reducible refine (HO.out).mono ?_); rintro e w1 ⟨g, rfl, hI, hb⟩; have HB := Aside0.mk hb; have HI := Aside0.mk hI; clear hI hb) | (go_at_call 63; (refine (find_design_told.calls k g n ls A2 c2 o 0 false n w _ (by first | exact HI.out | exact HI.out.drewN _) (by first | exact HB.out | exact pw_below_drewN HB.out _) (by repeat (first | exact (Kd.C_below HR2.out HB.out) | (with_reducible refine Kd.C_alloc ?_ _) | (with_reducible refine Kd.C_drewN ?_ _) | (with_reducible refine Kd.C_drew ?_))) HC2.out (fun ad e h => by have := HBk.out ad e h; have := HI.out.ge; omega) HT.out).mono ?_); rintro e w2 ⟨rfl, _, hb2, _⟩; have HB2 := Aside0.mk hb2; clear hb2))
      go_ret2
      exact ⟨_, by rw [HP.out]; rfl, by rw [HP.out]; exact Kd.S_nil _ _ _ _ _, by repeat (first | exact HB2.out | apply below_alloc | apply pw_below_drewN | apply below_drew1)⟩
  · have e0 : (ofN n ls != 0) = true := by simpa using h0
    have e1 : (ofN n ls == 0) = false := by simpa using h0
    have HP := Aside0.mk (show setsP n ls o most = ([], ofN n ls) by unfold setsP; rw [if_neg h0])
    have HO := Aside0.mk (of_no n A1 c1 ls _ w hr1 rfl h0)
    clear h h0 hr1 hr2 hc2
    go_enter Tryd.func37, Tryd.ntmps37
    go_wp2_with (first | (go_at_call 42; (with_reducible refine (HO.out).mono ?_); rintro e w1 ⟨rfl, hb⟩; have HB := Aside0.mk hb; clear hb))
    go_ret2
    exact ⟨_, by rw [HP.out]; rfl, by rw [HP.out]; exact Kd.S_nil _ _ _ _ _, by repeat (first | exact HB.out | apply pw_below_drewN | apply below_drew1)⟩
theorem sets_yes (n : Nat) (A1 : Option Addr) (c1 : Nat) (ls : List (List Int)) (A2 : Option Addr) (c2 : Nat) (o : List Bool) (M : Nat) (hM : M ≤ 3) (w : World) (hr1 : Kd.C (Kd.slice 3 (Kd.int .i64)) w A1 ls.length ls) (hr2 : Kd.C Kd.bool w A2 o.length o) (hc2 : o.length ≤ c2) (h0 : ofN (n : Int) ls = 0) (hol : o.length = ls.length) :
    Calls Tryd.prog 37 #[.int .i64 (n : Int), .slice A1 ls.length c1, .slice A2 o.length c2, .int .i64 (M : Int)] w (SetsPost (n : Int) ls o (M : Int) w) := by
  have hn := (ofN_ok h0).1
  have hd := (ofN_ok h0).2.1
  have hn100 : n ≤ 100 := by omega
  have HN := Aside0.mk hn100
  have HM3 := Aside0.mk hM
  have HD := Aside0.mk hd
  have HP := Aside0.mk (show setsP (n : Int) ls o (M : Int) = if (setR n M ls o).length ≤ 2000 then (setR n M ls o, 0) else ([], 8) by unfold setsP; rw [if_pos h0, if_pos ⟨hol, by omega, by omega⟩]; rfl)
  have HQ := Aside0.mk (show ∀ L, L.Perm ((byMany n M).filter (qD ls o)) → L.Pairwise (fun a b => llt b a = false) → L = setR n M ls o from fun L h1 h2 => by rw [qD_eq ls o hol] at h1; exact sorted_pre n M _ L h1 h2)
  have HQL := Aside0.mk (show (setR n M ls o).length = ((byN n (M + 1)).filter (qD ls o)).length from (by rw [qD_eq ls o hol]; exact ((byMany_perm n M).filter _).symm.length_eq))
  have ht := told_ev ls o hd (n : Int)
  rw [if_pos hol] at ht
  obtain ⟨kt, hkt⟩ := ht.rounds
  have HT := Aside0.mk hkt
  have HF := Aside0.mk (show decide (0 ≤ (M : Int) ∧ (M : Int) ≤ 3) = true by simp; omega)
  have HO := Aside0.mk (of_ok (n : Int) A1 c1 ls w hr1 h0)
  have HCe := Aside0.mk (cols_ev n hn100 ls hd (ofN_rows h0) (ofN_lens h0)).rounds
  have HDW := Aside0.mk (show wrap64 ((M : Int) + 1) = ((M + 1 : Nat) : Int) from wrap1 (by omega))
  obtain ⟨k, hk⟩ := HCe.out
  have HK := Aside0.mk hk
  have HR2 := Aside0.mk hr2
  have HC2 := Aside0.mk hc2
  have HBk := Aside0.mk (C_blockB hr2)
  clear h0 hr1 hr2 hc2 hn hd hn100 HCe hk ht hkt hol hM
  go_enter Tryd.func37, Tryd.ntmps37
  go_wp2_with (first | (go_at_call 42; (with_reducible refine (HO.out).mono ?_); rintro e w1 ⟨g, rfl, hI, hb⟩; have HB := Aside0.mk hb; have HI := Aside0.mk hI; clear hI hb) | (go_at_call 63; (refine (find_design_told.calls kt g (n : Int) ls A2 c2 o (toldN o : Int) true (n : Int) w _ (by first | exact HI.out | exact HI.out.drewN _) (by first | exact HB.out | exact pw_below_drewN HB.out _) (by repeat (first | exact (Kd.C_below HR2.out HB.out) | (with_reducible refine Kd.C_alloc ?_ _) | (with_reducible refine Kd.C_drewN ?_ _) | (with_reducible refine Kd.C_drew ?_))) HC2.out (fun ad e h => by have := HBk.out ad e h; have := HI.out.ge; omega) HT.out).mono ?_); rintro e wt ⟨rfl, hIt, hbt, _⟩; have HIt := Aside0.mk hIt; have HBt := Aside0.mk hbt; clear hIt hbt) | (go_at_call 43; (with_reducible refine (few_calls (M : Int) true _ HF.out).mono ?_); rintro e w' ⟨rfl, ⟨nd, rfl⟩⟩) | (go_at_call 44; (refine (find_design_columns.calls k g (n : Int) ls (colsOf n ls) (n : Int) w _ (by repeat (first | exact HIt.out | apply IsS98.alloc | apply IsS98.drewN)) (by repeat (first | exact HBt.out | apply below_alloc | apply pw_below_drewN)) HK.out).mono ?_); rintro e w2 ⟨v0, rfl, hR2, _, hb2, hk2⟩; obtain ⟨A3, c3, rfl, hW3⟩ := WordsAt.of_R hR2; have hbx := (hk2.2 wt.heap.size (by have := (Array.size_push (xs := wt.heap) (v := Obj.cells #[Value.int .u64 (toldN o : Int)] 70)); first | exact Nat.lt_of_lt_of_le (Nat.lt_succ_self _) (Nat.le_of_eq this.symm) | omega) (by obtain ⟨_, _, hg, _⟩ := HIt.out; have := blk_lt hg; omega) (by simp)).trans (heap_alloc_new wt _); have HBX := Aside0.mk hbx; have HW3 := Aside0.mk hW3; have HB2 := Aside0.mk hb2; clear hW3 hb2 hR2 hbx hk2))
  have hsz1 : (w2.alloc (Obj.cells #[Value.slice A3 (colsOf n ls).length c3] 65)).heap.size = w2.heap.size + 1 := Array.size_push ..
  have hb23 : Below w2.heap.size w2 ((w2.alloc (Obj.cells #[Value.slice A3 (colsOf n ls).length c3] 65)).alloc (Obj.cells #[Value.slice none 0 0] 22)) := below_alloc (below_alloc (Below.refl _ _) _) _
  have hB3 : Below w.heap.size w ((w2.alloc (Obj.cells #[Value.slice A3 (colsOf n ls).length c3] 65)).alloc (Obj.cells #[Value.slice none 0 0] 22)) := below_alloc (below_alloc HB2.out _) _
  have hBo := heap_alloc_new (w2.alloc (Obj.cells #[Value.slice A3 (colsOf n ls).length c3] 65)) (Obj.cells #[Value.slice none 0 0] 22)
  rw [hsz1] at hBo
  have hJ : SetAt w.heap.size (colsOf n ls) (toldN o) w2.heap.size wt.heap.size (w2.heap.size + 1) [] ((w2.alloc (Obj.cells #[Value.slice A3 (colsOf n ls).length c3] 65)).alloc (Obj.cells #[Value.slice none 0 0] 22)) :=
    ⟨⟨A3, c3, ((below_alloc (Below.refl (w2.alloc (Obj.cells #[Value.slice A3 (colsOf n ls).length c3] 65)).heap.size (w2.alloc (Obj.cells #[Value.slice A3 (colsOf n ls).length c3] 65))) (Obj.cells #[Value.slice none 0 0] 22)).block w2.heap.size (by rw [hsz1]; omega)).trans (heap_alloc_new w2 _), HW3.out.kp (Kp.of_below hb23)⟩,
      (hb23.block _ (blk_lt HBX.out)).trans HBX.out, ⟨_, hBo, Kd.S_nil _ _ _ _ _⟩⟩
  have HLE := Aside0.mk (show w.heap.size ≤ w2.heap.size + 1 by have := HB2.out.size; omega)
  clear HB2 HB HI HIt HBt HO HT HF HK HW3 HBX hsz1 hb23 hBo
  generalize (w2.alloc (Obj.cells #[Value.slice A3 (colsOf n ls).length c3] 65)).alloc (Obj.cells #[Value.slice none 0 0] 22) = w3 at *
  generalize w2.heap.size + 1 = Bo at *
  generalize w2.heap.size = Bc at *
  generalize wt.heap.size = Bw at *
  have HJ := Aside0.mk hJ
  have HB := Aside0.mk hB3
  clear hJ hB3
  go_loopw [43] (fun v43 w' => ∃ m : Nat, v43 = .int .i64 (m : Int) ∧ Aside0 (m ≤ M + 1) ∧ Aside0 (((byN n m).filter (qD ls o)).length ≤ 2000) ∧ Aside0 (SetAt w.heap.size (colsOf n ls) (toldN o) Bc Bw Bo ((byN n m).filter (qD ls o)) w') ∧ Aside0 (Below w.heap.size w w')) (fun v _ => M + 1 - (intOf v).toNat)
  case atStart => exact ⟨0, rfl, ⟨Nat.zero_le _⟩, ⟨Nat.zero_le _⟩, HJ, HB⟩
  case round =>
    clear HJ HB
    obtain ⟨m, rfl, Hm, HL, HJ, HB⟩ := hrel
    have hdw := HDW.out
    by_cases cm : (m : Int) < ((M + 1 : Nat) : Int)
    · have c2b : decide ((m : Int) < wrap64 ((M : Int) + 1)) = true := by rw [hdw]; exact decide_eq_true cm
      have Hcm := Aside0.mk (show m < M + 1 by omega)
      have hsu : (byN n (m + 1)).filter (qD ls o) = (byN n m).filter (qD ls o) ++ (cmb n m 0).filter (qD ls o) := by rw [byN_succ, List.filter_append]
      by_cases hfew : ((byN n (m + 1)).filter (qD ls o)).length ≤ 2000
      · have hg := setG_few (qD ls o) (cmb n m 0) ((byN n m).filter (qD ls o)) (by rw [← hsu]; exact hfew)
        rw [← hsu] at hg
        have HFew := Aside0.mk hfew
        have HS := Aside0.mk (set_subsets ls HD.out o n m w.heap.size Bc Bw Bo HN.out (by have := Hcm.out; have := HM3.out; omega) HLE.out _ HL.out wr HJ.out _ _ hg)
        clear cm hdw hsu hfew hg
        go_wp2_with (go_at_call 45; (refine (HS.out).mono ?_); rintro e w5 ⟨rfl, hj5, hb5⟩; have HJ5 := Aside0.mk hj5; have HB5 := Aside0.mk hb5; clear hj5 hb5)
        go_roundw
        case rel => exact ⟨m + 1, by rw [wrap1 (by have := Hcm.out; have := HM3.out; omega)], ⟨by have := Hcm.out; omega⟩, HFew, HJ5, ⟨HB.out.trans HB5.out⟩⟩
        case measure => rw [wrap1 (by have := Hcm.out; have := HM3.out; omega)]; have := Hcm.out; simp [intOf]; omega
      · have hg2 := setG_many (qD ls o) (cmb n m 0) ((byN n m).filter (qD ls o)) HL.out (by rw [← hsu]; exact hfew)
        obtain ⟨s5, hg⟩ : ∃ s, setG (qD ls o) ((byN n m).filter (qD ls o)) (cmb n m 0) = (s, true) := ⟨_, by rw [← hg2]⟩
        have HS := Aside0.mk (set_subsets ls HD.out o n m w.heap.size Bc Bw Bo HN.out (by have := Hcm.out; have := HM3.out; omega) HLE.out _ HL.out wr HJ.out _ _ hg)
        have hbig : ¬ (setR n M ls o).length ≤ 2000 := by
          rw [HQL.out]
          have h1 := byN_le n (qD ls o) (m + 1) (M - m)
          rw [show m + 1 + (M - m) = M + 1 by have := Hcm.out; omega] at h1
          omega
        have HBig := Aside0.mk hbig
        clear cm hdw hsu hfew hg hg2 hbig
        go_wp2_with (go_at_call 45; (refine (HS.out).mono ?_); rintro e w5 ⟨rfl, hj5, hb5⟩; have HJ5 := Aside0.mk hj5; have HB5 := Aside0.mk hb5; clear hj5 hb5)
        go_ret2
        exact ⟨_, by rw [HP.out, if_neg HBig.out]; rfl, by rw [HP.out, if_neg HBig.out]; exact Kd.S_nil _ _ _ _ _, HB.out.trans HB5.out⟩
    · have c2b : decide ((m : Int) < wrap64 ((M : Int) + 1)) = false := by rw [hdw]; exact decide_eq_false cm
      have he : m = M + 1 := by have := Hm.out; omega
      have HE := Aside0.mk he
      have hfew : (setR n M ls o).length ≤ 2000 := by rw [HQL.out, ← he]; exact HL.out
      have HFew := Aside0.mk hfew
      obtain ⟨v, hbx, hS⟩ := HJ.out.o
      have hcell : wr.cell? ⟨Bo, 0, none⟩ = some v := (blk_cell hbx 0).trans rfl
      have HBX := Aside0.mk hbx
      have HNE := Aside0.mk (Kd.S_ne hS hbx (by decide))
      have HSo := Aside0.mk (sort_calls hS (by have := HL.out; omega))
      clear cm hdw hfew hbx hS he
      go_wp2_with (go_at_call 65; (refine (HSo.out).mono ?_); rintro e w5 ⟨rfl, ⟨ys, hp5, hs5, hS5⟩, hk5, hb5⟩; have hbx5 := (hk5.2 Bo (blk_lt HBX.out) (fun h => HNE.out h.symm)).trans HBX.out; have hc5 : w5.cell? ⟨Bo, 0, none⟩ = some v := (blk_cell hbx5 0).trans rfl; have HS5 := Aside0.mk hS5; have HB5 := Aside0.mk (hb5 _ HB.out); have HY5 := Aside0.mk (HQ.out ys (by have h9 := hp5; rw [HE.out] at h9; exact h9) hs5); clear hp5 hs5 hS5 hk5 hb5 hbx5)
      go_ret2
      exact ⟨_, by rw [HP.out, if_pos HFew.out]; rfl, by rw [HP.out, if_pos HFew.out, ← HY5.out]; exact HS5.out, HB5.out⟩
/-- find.Sets, told as the printed contracts are. -/
def find_Sets.f (a0 : Int) (l1 : List (List Int)) (l2 : List Bool) (a3 : Int) : Option (List (List Int) × Int) := some (setsP a0 l1 l2 a3)
theorem find_Sets.calls (a0 : Int) (A1 : Option Addr) (c1 : Nat) (l1 : List (List Int)) (A2 : Option Addr) (c2 : Nat) (l2 : List Bool) (a3 : Int) (r1 : List (List Int)) (r2 : Int) (w : World) (hr1 : Kd.C (Kd.slice 3 (Kd.int .i64)) w A1 l1.length l1) (hc1 : l1.length ≤ c1) (hr2 : Kd.C Kd.bool w A2 l2.length l2) (hc2 : l2.length ≤ c2) (h : find_Sets.f a0 l1 l2 a3 = some (r1, r2)) :
    Calls Tryd.prog 37 #[.int .i64 a0, .slice A1 l1.length c1, .slice A2 l2.length c2, .int .i64 a3] w fun e w' => ∃ v0_ : Value, e = .returned (.tuple #[v0_, .int .i64 r2]) ∧ Kd.S (Kd.slice 3 (Kd.int .i64)) 25 w' w.heap.size (fun _ => True) v0_ r1 ∧ Below w.heap.size w w' := by
  have hp : setsP a0 l1 l2 a3 = (r1, r2) := by injection h
  have key : Calls Tryd.prog 37 #[.int .i64 a0, .slice A1 l1.length c1, .slice A2 l2.length c2, .int .i64 a3] w (SetsPost a0 l1 l2 a3 w) := by
    by_cases h1 : ofN a0 l1 = 0
    · by_cases h2 : l2.length = l1.length ∧ 0 ≤ a3 ∧ a3 ≤ 3
      · obtain ⟨n, rfl⟩ := Int.eq_ofNat_of_zero_le (show 0 ≤ a0 by have := (ofN_ok h1).1; omega)
        obtain ⟨M, rfl⟩ := Int.eq_ofNat_of_zero_le h2.2.1
        exact sets_yes n A1 c1 l1 A2 c2 l2 M (by omega) w hr1 hr2 hc2 h1 h2.1
      · exact sets_no a0 A1 c1 l1 A2 c2 l2 a3 w hr1 hr2 hc2 (.inr h2)
    · exact sets_no a0 A1 c1 l1 A2 c2 l2 a3 w hr1 hr2 hc2 (.inl h1)
  refine key.mono ?_
  rintro e w' ⟨v, he, h1, h2⟩
  rw [hp] at he h1
  exact ⟨v, he, h1, h2⟩
end Go.Proofs.YtglajokjiphafaaDoor.P

namespace Go.Proofs.YtglajokjiphafaaDoor.P
open Go.RowKit Go.Proofs.YtglajokjiphafaaDoorW.PrintWords Go.Proofs.YtglajokjiphafaaDoorW.PrintLast Go.Proofs.YtglajokjiphafaaDoorW.PrintMore
attribute [local go_sem] max2_int min2_int max_two min_two max_three min_three max_four min_four   -- for this text's walks alone
set_option linter.unusedVariables false
set_option linter.unusedSimpArgs false

/-! ### neonwrightref05_rising: function 55 -/
def neonwrightref05_rising.l0 : Nat → List Int → Int → Int → Option (Bool)
  | 0, _, _, _ => none
  | k + 1, x0, x1, x5 => if x5 < (x0.length : Int) then (if 0 ≤ x5 then (if (rd x0 x5) < 0 then (some false) else (if (rd x0 x5) ≥ x1 then (some false) else (if x5 > 0 then (if 0 ≤ (wrap64 (x5 - 1)) then (if (wrap64 (x5 - 1)) < (x0.length : Int) then (if (rd x0 x5) ≤ (rd x0 (wrap64 (x5 - 1))) then (some false) else (neonwrightref05_rising.l0 k x0 x1 (wrap64 (x5 + 1)))) else (none)) else (none)) else (neonwrightref05_rising.l0 k x0 x1 (wrap64 (x5 + 1)))))) else (none)) else (some true)
def neonwrightref05_rising.f (k : Nat) (l0 : List Int) (a1 : Int) : Option (Bool) := neonwrightref05_rising.l0 k l0 a1 0
theorem neonwrightref05_rising.mono_l : ∀ k, (∀ y0 y1 y2, LeO (neonwrightref05_rising.l0 k y0 y1 y2) (neonwrightref05_rising.l0 (k + 1) y0 y1 y2))
  | 0 => fun _ _ _ r h => by simp [neonwrightref05_rising.l0] at h
  | k + 1 => by
    have ih0 := neonwrightref05_rising.mono_l k
    · intro y0 y1 y2
      unfold neonwrightref05_rising.l0
      repeat' first
      | (with_reducible exact ih0 _ _ _)
      | (with_reducible exact LeO.refl _)
      | (with_reducible exact LeO.none _)
      | (with_reducible refine LeO.ite ?_ ?_)
      | (with_reducible refine LeO.bind ?_ (fun _ => ?_))
      | exact ih0 _ _ _
      | exact LeO.none _
      | refine LeO.ite ?_ ?_
      | refine LeO.bind ?_ (fun _ => ?_)
theorem neonwrightref05_rising.mono : ∀ a0 a1 k, LeO (neonwrightref05_rising.f k a0 a1) (neonwrightref05_rising.f (k + 1) a0 a1) := by
  intro a0 a1 k
  have ih0 := neonwrightref05_rising.mono_l k
  unfold neonwrightref05_rising.f
  repeat' first
      | (with_reducible exact ih0 _ _ _)
      | (with_reducible exact LeO.refl _)
      | (with_reducible exact LeO.none _)
      | (with_reducible refine LeO.ite ?_ ?_)
      | (with_reducible refine LeO.bind ?_ (fun _ => ?_))
      | exact ih0 _ _ _
      | exact LeO.none _
      | refine LeO.ite ?_ ?_
      | refine LeO.bind ?_ (fun _ => ?_)
set_option maxHeartbeats 8000000 in
set_option maxRecDepth 100000 in
theorem neonwrightref05_rising.calls (k : Nat) (A0 : Option Addr) (c0 : Nat) (l0 : List Int) (a1 : Int) (r : Bool) (w : World) (hr0 : Kd.C (Kd.int .i64) w A0 l0.length l0) (hc0 : l0.length ≤ c0) (h : neonwrightref05_rising.f k l0 a1 = some r) :
    Calls Tryd.prog 55 #[.slice A0 l0.length c0, .int .i64 a1] w fun e w' => e = .returned (.bool r) ∧ Drawn0 w w' := by
  have HR0 := Aside0.mk hr0
  have HC0 := Aside0.mk hc0
  clear hr0 hc0
  have H : (neonwrightref05_rising.l0 k l0 a1 0) = some r := h
  clear h
  have H' := Aside0.mk H
  clear H
  go_enter Tryd.func55, Tryd.ntmps55
  go_wp2
  repeat (go_quiet (fail); try go_wp2)
  go_loopg [5] k (fun kq v5 w' => ∃ (x5_1 : Int), v5 = .int .i64 x5_1 ∧ Aside0 (neonwrightref05_rising.l0 kq l0 a1 x5_1 = some r) ∧ Aside0 (kq ≤ k) ∧ Drawn0 w w')
  case atStart => exact ⟨(0), (by first | rfl | (simp; done) | (simp [*]; done)), H', ⟨Nat.le_refl _⟩, by repeat (first | exact Drawn0.refl _ | apply Drawn0.step)⟩
  case round =>
    clear H'
    try clear p2
    obtain ⟨x5_1, rfl, HA, HK1, ⟨m1, rfl⟩⟩ := hrel
    cases gk with
    | zero => exact absurd HA.out (by simp [neonwrightref05_rising.l0])
    | succ k1 =>
      have H := HA.out
      clear HA
      simp only [neonwrightref05_rising.l0] at H
      by_cases c3 : x5_1 < (l0.length : Int)
      · rw [if_pos c3] at H
        have c3b0 : decide (x5_1 < (l0.length : Int)) = true := decide_eq_true c3
        clear c3
        by_cases c4 : 0 ≤ x5_1
        · rw [if_pos c4] at H
          have c4b0 : decide (0 ≤ x5_1) = true := decide_eq_true c4
          clear c4
          by_cases c5 : (rd l0 x5_1) < 0
          · rw [if_pos c5] at H
            have c5b0 : decide ((rd l0 x5_1) < 0) = true := decide_eq_true c5
            clear c5
            obtain rfl := Option.some.inj H
            have p117 : 0 ≤ (x5_1 : Int) := of_decide_eq_true (by first | (with_reducible assumption) | assumption)
            have q117 : x5_1 < (l0.length : Int) := of_decide_eq_true (by first | (with_reducible assumption) | assumption)
            obtain ⟨ad117, e117, hx117_0⟩ := Kd.at_int HR0.out x5_1 p117 q117
            cases e117
            replace p117 := eq_true p117
            replace q117 := eq_true q117
            go_wp2
            repeat (go_quiet (fail); try go_wp2)
            go_ret
            exact ⟨by first | rfl | (simp; done) | (simp [*]; done), by repeat (first | exact Drawn0.refl _ | apply Drawn0.step)⟩
          · rw [if_neg c5] at H
            have c5b0 : decide ((rd l0 x5_1) < 0) = false := decide_eq_false c5
            clear c5
            by_cases c6 : (rd l0 x5_1) ≥ a1
            · rw [if_pos c6] at H
              have c6b0 : decide (a1 ≤ (rd l0 x5_1)) = true := decide_eq_true c6
              clear c6
              obtain rfl := Option.some.inj H
              have p117 : 0 ≤ (x5_1 : Int) := of_decide_eq_true (by first | (with_reducible assumption) | assumption)
              have q117 : x5_1 < (l0.length : Int) := of_decide_eq_true (by first | (with_reducible assumption) | assumption)
              obtain ⟨ad117, e117, hx117_0⟩ := Kd.at_int HR0.out x5_1 p117 q117
              cases e117
              replace p117 := eq_true p117
              replace q117 := eq_true q117
              have p118 : 0 ≤ (x5_1 : Int) := of_decide_eq_true (by first | (with_reducible assumption) | assumption)
              have q118 : x5_1 < (l0.length : Int) := of_decide_eq_true (by first | (with_reducible assumption) | assumption)
              obtain ⟨ad118, e118, hx118_0⟩ := Kd.at_int HR0.out x5_1 p118 q118
              obtain rfl : ad117 = ad118 := (by injection e118)
              replace p118 := eq_true p118
              replace q118 := eq_true q118
              go_wp2
              repeat (go_quiet (fail); try go_wp2)
              go_ret
              exact ⟨by first | rfl | (simp; done) | (simp [*]; done), by repeat (first | exact Drawn0.refl _ | apply Drawn0.step)⟩
            · rw [if_neg c6] at H
              have c6b0 : decide (a1 ≤ (rd l0 x5_1)) = false := decide_eq_false c6
              clear c6
              by_cases c7 : x5_1 > 0
              · rw [if_pos c7] at H
                have c7b0 : decide (0 < x5_1) = true := decide_eq_true c7
                clear c7
                obtain ⟨ji8, hji8⟩ : ∃ j_ : Int, (wrap64 (x5_1 - 1)) = j_ := ⟨_, rfl⟩
                replace H : (if 0 ≤ (ji8) then (if (ji8) < (l0.length : Int) then (if (rd l0 x5_1) ≤ (rd l0 (ji8)) then (some false) else (neonwrightref05_rising.l0 k1 l0 a1 (wrap64 (x5_1 + 1)))) else (none)) else (none)) = some r := by first | (rw [hji8] at H; exact H) | (simp only [hji8] at H ⊢; exact H)
                have hji8w : (IntKind.i64.wrap (x5_1 - 1)) = ji8 := (i64_w _).trans hji8
                by_cases c9 : 0 ≤ (ji8)
                · rw [if_pos c9] at H
                  have c9b0 : decide (0 ≤ (ji8)) = true := decide_eq_true c9
                  clear c9
                  by_cases c10 : (ji8) < (l0.length : Int)
                  · rw [if_pos c10] at H
                    have c10b0 : decide ((ji8) < (l0.length : Int)) = true := decide_eq_true c10
                    clear c10
                    by_cases c11 : (rd l0 x5_1) ≤ (rd l0 (ji8))
                    · rw [if_pos c11] at H
                      have c11b0 : decide ((rd l0 x5_1) ≤ (rd l0 (ji8))) = true := decide_eq_true c11
                      clear c11
                      obtain rfl := Option.some.inj H
                      have p117 : 0 ≤ (x5_1 : Int) := of_decide_eq_true (by first | (with_reducible assumption) | assumption)
                      have q117 : x5_1 < (l0.length : Int) := of_decide_eq_true (by first | (with_reducible assumption) | assumption)
                      obtain ⟨ad117, e117, hx117_0⟩ := Kd.at_int HR0.out x5_1 p117 q117
                      cases e117
                      replace p117 := eq_true p117
                      replace q117 := eq_true q117
                      have p118 : 0 ≤ (x5_1 : Int) := of_decide_eq_true (by first | (with_reducible assumption) | assumption)
                      have q118 : x5_1 < (l0.length : Int) := of_decide_eq_true (by first | (with_reducible assumption) | assumption)
                      obtain ⟨ad118, e118, hx118_0⟩ := Kd.at_int HR0.out x5_1 p118 q118
                      obtain rfl : ad117 = ad118 := (by injection e118)
                      replace p118 := eq_true p118
                      replace q118 := eq_true q118
                      have p119 : 0 ≤ (x5_1 : Int) := of_decide_eq_true (by first | (with_reducible assumption) | assumption)
                      have q119 : x5_1 < (l0.length : Int) := of_decide_eq_true (by first | (with_reducible assumption) | assumption)
                      obtain ⟨ad119, e119, hx119_0⟩ := Kd.at_int HR0.out x5_1 p119 q119
                      obtain rfl : ad117 = ad119 := (by injection e119)
                      replace p119 := eq_true p119
                      replace q119 := eq_true q119
                      have p120 : 0 ≤ ((ji8) : Int) := of_decide_eq_true (by first | (with_reducible assumption) | assumption)
                      have q120 : (ji8) < (l0.length : Int) := of_decide_eq_true (by first | (with_reducible assumption) | assumption)
                      obtain ⟨ad120, e120, hx120_0⟩ := Kd.at_int HR0.out (ji8) p120 q120
                      obtain rfl : ad117 = ad120 := (by injection e120)
                      replace p120 := eq_true p120
                      replace q120 := eq_true q120
                      go_wp2
                      repeat (go_quiet (fail); try go_wp2)
                      go_ret
                      exact ⟨by first | rfl | (simp; done) | (simp only [← hji8] <;> (first | rfl | simp)) | (simp [*]; done), by repeat (first | exact Drawn0.refl _ | apply Drawn0.step)⟩
                    · rw [if_neg c11] at H
                      have c11b0 : decide ((rd l0 x5_1) ≤ (rd l0 (ji8))) = false := decide_eq_false c11
                      clear c11
                      have H' := Aside0.mk H
                      clear H
                      have p117 : 0 ≤ (x5_1 : Int) := of_decide_eq_true (by first | (with_reducible assumption) | assumption)
                      have q117 : x5_1 < (l0.length : Int) := of_decide_eq_true (by first | (with_reducible assumption) | assumption)
                      obtain ⟨ad117, e117, hx117_0⟩ := Kd.at_int HR0.out x5_1 p117 q117
                      cases e117
                      replace p117 := eq_true p117
                      replace q117 := eq_true q117
                      have p118 : 0 ≤ (x5_1 : Int) := of_decide_eq_true (by first | (with_reducible assumption) | assumption)
                      have q118 : x5_1 < (l0.length : Int) := of_decide_eq_true (by first | (with_reducible assumption) | assumption)
                      obtain ⟨ad118, e118, hx118_0⟩ := Kd.at_int HR0.out x5_1 p118 q118
                      obtain rfl : ad117 = ad118 := (by injection e118)
                      replace p118 := eq_true p118
                      replace q118 := eq_true q118
                      have p119 : 0 ≤ (x5_1 : Int) := of_decide_eq_true (by first | (with_reducible assumption) | assumption)
                      have q119 : x5_1 < (l0.length : Int) := of_decide_eq_true (by first | (with_reducible assumption) | assumption)
                      obtain ⟨ad119, e119, hx119_0⟩ := Kd.at_int HR0.out x5_1 p119 q119
                      obtain rfl : ad117 = ad119 := (by injection e119)
                      replace p119 := eq_true p119
                      replace q119 := eq_true q119
                      have p120 : 0 ≤ ((ji8) : Int) := of_decide_eq_true (by first | (with_reducible assumption) | assumption)
                      have q120 : (ji8) < (l0.length : Int) := of_decide_eq_true (by first | (with_reducible assumption) | assumption)
                      obtain ⟨ad120, e120, hx120_0⟩ := Kd.at_int HR0.out (ji8) p120 q120
                      obtain rfl : ad117 = ad120 := (by injection e120)
                      replace p120 := eq_true p120
                      replace q120 := eq_true q120
                      go_wp2
                      repeat (go_quiet (fail); try go_wp2)
                      go_roundg k1
                      case measure => have := HK1.out; omega
                      case rel => exact ⟨(wrap64 (x5_1 + 1)), (by first | rfl | (simp; done) | (simp [*]; done)), H', ⟨by have := HK1.out; omega⟩, by repeat (first | exact Drawn0.refl _ | apply Drawn0.step)⟩
                  · rw [if_neg c10] at H
                    exact absurd H (by simp)
                · rw [if_neg c9] at H
                  exact absurd H (by simp)
              · rw [if_neg c7] at H
                have c7b0 : decide (0 < x5_1) = false := decide_eq_false c7
                clear c7
                have H' := Aside0.mk H
                clear H
                have p117 : 0 ≤ (x5_1 : Int) := of_decide_eq_true (by first | (with_reducible assumption) | assumption)
                have q117 : x5_1 < (l0.length : Int) := of_decide_eq_true (by first | (with_reducible assumption) | assumption)
                obtain ⟨ad117, e117, hx117_0⟩ := Kd.at_int HR0.out x5_1 p117 q117
                cases e117
                replace p117 := eq_true p117
                replace q117 := eq_true q117
                have p118 : 0 ≤ (x5_1 : Int) := of_decide_eq_true (by first | (with_reducible assumption) | assumption)
                have q118 : x5_1 < (l0.length : Int) := of_decide_eq_true (by first | (with_reducible assumption) | assumption)
                obtain ⟨ad118, e118, hx118_0⟩ := Kd.at_int HR0.out x5_1 p118 q118
                obtain rfl : ad117 = ad118 := (by injection e118)
                replace p118 := eq_true p118
                replace q118 := eq_true q118
                go_wp2
                repeat (go_quiet (fail); try go_wp2)
                go_roundg k1
                case measure => have := HK1.out; omega
                case rel => exact ⟨(wrap64 (x5_1 + 1)), (by first | rfl | (simp; done) | (simp [*]; done)), H', ⟨by have := HK1.out; omega⟩, by repeat (first | exact Drawn0.refl _ | apply Drawn0.step)⟩
        · rw [if_neg c4] at H
          exact absurd H (by simp)
      · rw [if_neg c3] at H
        have c3b0 : decide (x5_1 < (l0.length : Int)) = false := decide_eq_false c3
        clear c3
        obtain rfl := Option.some.inj H
        go_wp2
        repeat (go_quiet (fail); try go_wp2)
        go_ret
        exact ⟨by first | rfl | (simp; done) | (simp [*]; done), by repeat (first | exact Drawn0.refl _ | apply Drawn0.step)⟩

end Go.Proofs.YtglajokjiphafaaDoor.P

namespace Go.Proofs.YtglajokjiphafaaDoor.P
open Go.RowKit Go.Proofs.YtglajokjiphafaaDoorW.PrintWords Go.Proofs.YtglajokjiphafaaDoorW.PrintLast Go.Proofs.YtglajokjiphafaaDoorW.PrintMore
attribute [local go_sem] max2_int min2_int max_two min_two max_three min_three max_four min_four   -- for this text's walks alone
set_option linter.unusedVariables false
set_option linter.unusedSimpArgs false

/-! ### neonwrightref05_Design: function 49 -/
mutual
def neonwrightref05_Design.j0 : Nat → Int → List (List Int) → Bool → Option (Int)
  | 0, _, _, _ => none
  | k + 1, x0, x1, x11 => if x11 = true then (some 2) else (if (x1.length : Int) > 60 then (some 3) else (neonwrightref05_Design.l0 k x0 x1 0))
def neonwrightref05_Design.l0 : Nat → Int → List (List Int) → Int → Option (Int)
  | 0, _, _, _ => none
  | k + 1, x0, x1, x5 => if x5 < (x1.length : Int) then (if 0 ≤ x5 then ((neonwrightref05_rising.f k (rd_L1 x1 x5) x0).bind fun t122 => (if t122 = true then (neonwrightref05_Design.l0 k x0 x1 (wrap64 (x5 + 1))) else (some 2))) else (none)) else (some 0)
end
def neonwrightref05_Design.f (k : Nat) (a0 : Int) (l1 : List (List Int)) : Option (Int) := if a0 < 1 then (neonwrightref05_Design.j0 k a0 l1 true) else (neonwrightref05_Design.j0 k a0 l1 (decide (a0 > 49)))
theorem neonwrightref05_Design.mono_l : ∀ k, (∀ y0 y1 y2, LeO (neonwrightref05_Design.j0 k y0 y1 y2) (neonwrightref05_Design.j0 (k + 1) y0 y1 y2)) ∧ (∀ y0 y1 y2, LeO (neonwrightref05_Design.l0 k y0 y1 y2) (neonwrightref05_Design.l0 (k + 1) y0 y1 y2))
  | 0 => ⟨fun _ _ _ r h => by simp [neonwrightref05_Design.j0] at h, fun _ _ _ r h => by simp [neonwrightref05_Design.l0] at h⟩
  | k + 1 => by
    obtain ⟨ih0, ih1⟩ := neonwrightref05_Design.mono_l k
    refine ⟨?_, ?_⟩
    · intro y0 y1 y2
      unfold neonwrightref05_Design.j0
      repeat' first
      | (with_reducible exact ih0 _ _ _)
      | (with_reducible exact ih1 _ _ _)
      | (with_reducible exact neonwrightref05_rising.mono _ _ _)
      | (with_reducible exact LeO.refl _)
      | (with_reducible exact LeO.none _)
      | (with_reducible refine LeO.ite ?_ ?_)
      | (with_reducible refine LeO.bind ?_ (fun _ => ?_))
      | exact ih0 _ _ _
      | exact ih1 _ _ _
      | exact neonwrightref05_rising.mono _ _ _
      | exact LeO.none _
      | refine LeO.ite ?_ ?_
      | refine LeO.bind ?_ (fun _ => ?_)
    · intro y0 y1 y2
      unfold neonwrightref05_Design.l0
      repeat' first
      | (with_reducible exact ih0 _ _ _)
      | (with_reducible exact ih1 _ _ _)
      | (with_reducible exact neonwrightref05_rising.mono _ _ _)
      | (with_reducible exact LeO.refl _)
      | (with_reducible exact LeO.none _)
      | (with_reducible refine LeO.ite ?_ ?_)
      | (with_reducible refine LeO.bind ?_ (fun _ => ?_))
      | exact ih0 _ _ _
      | exact ih1 _ _ _
      | exact neonwrightref05_rising.mono _ _ _
      | exact LeO.none _
      | refine LeO.ite ?_ ?_
      | refine LeO.bind ?_ (fun _ => ?_)
theorem neonwrightref05_Design.mono : ∀ a0 a1 k, LeO (neonwrightref05_Design.f k a0 a1) (neonwrightref05_Design.f (k + 1) a0 a1) := by
  intro a0 a1 k
  obtain ⟨ih0, ih1⟩ := neonwrightref05_Design.mono_l k
  unfold neonwrightref05_Design.f
  repeat' first
      | (with_reducible exact ih0 _ _ _)
      | (with_reducible exact ih1 _ _ _)
      | (with_reducible exact neonwrightref05_rising.mono _ _ _)
      | (with_reducible exact LeO.refl _)
      | (with_reducible exact LeO.none _)
      | (with_reducible refine LeO.ite ?_ ?_)
      | (with_reducible refine LeO.bind ?_ (fun _ => ?_))
      | exact ih0 _ _ _
      | exact ih1 _ _ _
      | exact neonwrightref05_rising.mono _ _ _
      | exact LeO.none _
      | refine LeO.ite ?_ ?_
      | refine LeO.bind ?_ (fun _ => ?_)
set_option maxHeartbeats 8000000 in
set_option maxRecDepth 100000 in
theorem neonwrightref05_Design.calls (k : Nat) (a0 : Int) (A1 : Option Addr) (c1 : Nat) (l1 : List (List Int)) (r : Int) (w : World) (hr1 : Kd.C (Kd.slice 3 (Kd.int .i64)) w A1 l1.length l1) (hc1 : l1.length ≤ c1) (h : neonwrightref05_Design.f k a0 l1 = some r) :
    Calls Tryd.prog 49 #[.int .i64 a0, .slice A1 l1.length c1] w fun e w' => e = .returned (.int .i64 r) ∧ Drawn0 w w' := by
  have HR1 := Aside0.mk hr1
  have HC1 := Aside0.mk hc1
  clear hr1 hc1
  have H : (if a0 < 1 then (neonwrightref05_Design.j0 k a0 l1 true) else (neonwrightref05_Design.j0 k a0 l1 (decide (a0 > 49)))) = some r := h
  clear h
  have HC3 := Aside0.mk H
  clear H
  go_enter Tryd.func49, Tryd.ntmps49
  go_upto_region 1 with (fail)
  go_cut [11] (fun v11 wc => ∃ (kq : Nat) (x11_2 : Bool), v11 = .bool x11_2 ∧ Aside0 (neonwrightref05_Design.j0 kq a0 l1 x11_2 = some r) ∧ Aside0 (kq ≤ k) ∧ Drawn0 w wc)
  case first =>
    have H := HC3.out
    clear HC3
    by_cases c4 : a0 < 1
    · rw [if_pos c4] at H
      have c4b0 : decide (a0 < 1) = true := decide_eq_true c4
      clear c4
      (first | rw [c4b0] | (simp only [i64_w, i32_w]; rw [c4b0]) | skip)
      have H' := Aside0.mk H
      clear H
      go_wp2
      go_meet
      case rel => exact ⟨_, (true), (by first | rfl | (simp; done) | (simp [*]; done)), H', ⟨by first | omega | exact Nat.le_refl _⟩, by repeat (first | exact Drawn0.refl _ | apply Drawn0.step)⟩
    · rw [if_neg c4] at H
      have c4b0 : decide (a0 < 1) = false := decide_eq_false c4
      clear c4
      (first | rw [c4b0] | (simp only [i64_w, i32_w]; rw [c4b0]) | skip)
      have H' := Aside0.mk H
      clear H
      go_wp2
      go_meet
      case rel => exact ⟨_, (decide (a0 > 49)), (by first | rfl | (simp; done) | (simp [*]; done)), H', ⟨by first | omega | exact Nat.le_refl _⟩, by repeat (first | exact Drawn0.refl _ | apply Drawn0.step)⟩
  case rest =>
    clear HC3
    try clear c1
    try clear p2
    try clear c4
    try clear c4b0
    obtain ⟨kq, x11_2, rfl, HA, HJ2, ⟨mc2, rfl⟩⟩ := hcut
    cases kq with
    | zero => exact absurd HA.out (by simp [neonwrightref05_Design.j0])
    | succ kj2 =>
      have H := HA.out
      clear HA
      simp only [neonwrightref05_Design.j0] at H
      by_cases c5 : x11_2 = true
      · subst c5
        have H1 : (some 2) = some r := by rw [if_pos rfl] at H; exact H
        clear H
        have H := H1
        clear H1
        obtain rfl := Option.some.inj H
        go_wp2
        go_ret
        exact ⟨by first | rfl | (simp; done) | (simp [*]; done), by repeat (first | exact Drawn0.refl _ | apply Drawn0.step)⟩
      · replace c5 := Bool.eq_false_iff.mpr c5
        subst c5
        have H1 : (if (l1.length : Int) > 60 then (some 3) else (neonwrightref05_Design.l0 kj2 a0 l1 0)) = some r := by rw [if_neg (show ¬ (false = true) by decide)] at H; exact H
        clear H
        have H := H1
        clear H1
        by_cases c6 : (l1.length : Int) > 60
        · rw [if_pos c6] at H
          have c6b0 : decide (60 < (l1.length : Int)) = true := decide_eq_true c6
          have c6b1 : decide (60 < l1.length) = true := decide_eq_true (by omega)
          clear c6
          obtain rfl := Option.some.inj H
          go_wp2
          go_ret
          exact ⟨by first | rfl | (simp; done) | (simp [*]; done), by repeat (first | exact Drawn0.refl _ | apply Drawn0.step)⟩
        · rw [if_neg c6] at H
          have c6b0 : decide (60 < (l1.length : Int)) = false := decide_eq_false c6
          have c6b1 : decide (60 < l1.length) = false := decide_eq_false (by omega)
          clear c6
          have H' := Aside0.mk H
          clear H
          go_wp2
          go_loopg [5] kj2 (fun kq v5 w' => ∃ (x5_2 : Int), v5 = .int .i64 x5_2 ∧ Aside0 (neonwrightref05_Design.l0 kq a0 l1 x5_2 = some r) ∧ Aside0 (kq ≤ kj2) ∧ Drawn0 w w')
          case atStart => exact ⟨(0), (by first | rfl | (simp; done) | (simp [*]; done)), H', ⟨Nat.le_refl _⟩, by repeat (first | exact Drawn0.refl _ | apply Drawn0.step)⟩
          case round =>
            clear H'
            try clear c1
            try clear c2
            try clear p2
            try clear c4
            try clear c4b0
            try clear c5
            try clear c6
            try clear c6b0
            try clear c6b1
            try clear p2
            obtain ⟨x5_2, rfl, HA, HK2, ⟨m2, rfl⟩⟩ := hrel
            cases gk with
            | zero => exact absurd HA.out (by simp [neonwrightref05_Design.l0])
            | succ k2 =>
              have H := HA.out
              clear HA
              simp only [neonwrightref05_Design.l0] at H
              by_cases c7 : x5_2 < (l1.length : Int)
              · rw [if_pos c7] at H
                have c7b0 : decide (x5_2 < (l1.length : Int)) = true := decide_eq_true c7
                clear c7
                by_cases c8 : 0 ≤ x5_2
                · rw [if_pos c8] at H
                  have c8b0 : decide (0 ≤ x5_2) = true := decide_eq_true c8
                  clear c8
                  replace H := Option.bind_eq_some_iff.mp H
                  obtain ⟨t122, A90, H⟩ := H
                  replace H : (if t122 = true then (neonwrightref05_Design.l0 k2 a0 l1 (wrap64 (x5_2 + 1))) else (some 2)) = some r := H
                  have A9 := Aside0.mk A90
                  clear A90
                  by_cases c10 : t122 = true
                  · subst c10
                    have H1 : (neonwrightref05_Design.l0 k2 a0 l1 (wrap64 (x5_2 + 1))) = some r := by rw [if_pos rfl] at H; exact H
                    clear H
                    have H := H1
                    clear H1
                    have H' := Aside0.mk H
                    clear H
                    have p121 : 0 ≤ (x5_2 : Int) := of_decide_eq_true (by first | (with_reducible assumption) | assumption)
                    have q121 : x5_2 < (l1.length : Int) := of_decide_eq_true (by first | (with_reducible assumption) | assumption)
                    obtain ⟨ad121, A121_0, c121_0, e121, hx121_0, hl121_0, hi121_0⟩ := at_L1 HR1.out x5_2 p121 q121
                    cases e121
                    have HR121_0 := Aside0.mk hi121_0
                    have HC121_0 := Aside0.mk hl121_0
                    clear hi121_0 hl121_0
                    replace p121 := eq_true p121
                    replace q121 := eq_true q121
                    go_wp2_with (first | ((with_reducible refine gate_callee (f := 55) rfl ?_); refine goesL_ (some 26) rfl rfl Tryd.func55 (by kernel_rfl) rfl #[.slice A121_0 (rd_L1 l1 x5_2).length c121_0, .int .i64 a0] rfl (by (try simp only [List.map_toArray, List.map_cons, List.map_nil]); first | done | rfl | (simp only [List.length_drop, List.length_take]; rfl)) ?_; (with_reducible refine (neonwrightref05_rising.calls k2 _ _ (rd_L1 l1 x5_2) a0 true _ ?side1 ?side2 A9.out).mono ?_); (case side1 => repeat (first | exact HR121_0.out | (with_reducible refine Kd.C_alloc ?_ _) | (with_reducible refine Kd.C_drewN ?_ _) | (with_reducible refine Kd.C_drew ?_))); (case side2 => exact HC121_0.out); rintro e w' ⟨rfl, ⟨nd, rfl⟩⟩; refine ⟨_, rfl, ?_⟩))
                    go_roundg k2
                    case measure => have := HJ2.out; have := HK2.out; omega
                    case rel => exact ⟨(wrap64 (x5_2 + 1)), (by first | rfl | (simp; done) | (simp [*]; done)), H', ⟨by have := HJ2.out; have := HK2.out; omega⟩, by repeat (first | exact Drawn0.refl _ | apply Drawn0.step)⟩
                  · replace c10 := Bool.eq_false_iff.mpr c10
                    subst c10
                    have H1 : (some 2) = some r := by rw [if_neg (show ¬ (false = true) by decide)] at H; exact H
                    clear H
                    have H := H1
                    clear H1
                    obtain rfl := Option.some.inj H
                    have p121 : 0 ≤ (x5_2 : Int) := of_decide_eq_true (by first | (with_reducible assumption) | assumption)
                    have q121 : x5_2 < (l1.length : Int) := of_decide_eq_true (by first | (with_reducible assumption) | assumption)
                    obtain ⟨ad121, A121_0, c121_0, e121, hx121_0, hl121_0, hi121_0⟩ := at_L1 HR1.out x5_2 p121 q121
                    cases e121
                    have HR121_0 := Aside0.mk hi121_0
                    have HC121_0 := Aside0.mk hl121_0
                    clear hi121_0 hl121_0
                    replace p121 := eq_true p121
                    replace q121 := eq_true q121
                    go_wp2_with (first | ((with_reducible refine gate_callee (f := 55) rfl ?_); refine goesL_ (some 26) rfl rfl Tryd.func55 (by kernel_rfl) rfl #[.slice A121_0 (rd_L1 l1 x5_2).length c121_0, .int .i64 a0] rfl (by (try simp only [List.map_toArray, List.map_cons, List.map_nil]); first | done | rfl | (simp only [List.length_drop, List.length_take]; rfl)) ?_; (with_reducible refine (neonwrightref05_rising.calls k2 _ _ (rd_L1 l1 x5_2) a0 false _ ?side1 ?side2 A9.out).mono ?_); (case side1 => repeat (first | exact HR121_0.out | (with_reducible refine Kd.C_alloc ?_ _) | (with_reducible refine Kd.C_drewN ?_ _) | (with_reducible refine Kd.C_drew ?_))); (case side2 => exact HC121_0.out); rintro e w' ⟨rfl, ⟨nd, rfl⟩⟩; refine ⟨_, rfl, ?_⟩))
                    go_ret
                    exact ⟨by first | rfl | (simp; done) | (simp [*]; done), by repeat (first | exact Drawn0.refl _ | apply Drawn0.step)⟩
                · rw [if_neg c8] at H
                  exact absurd H (by simp)
              · rw [if_neg c7] at H
                have c7b0 : decide (x5_2 < (l1.length : Int)) = false := decide_eq_false c7
                clear c7
                obtain rfl := Option.some.inj H
                go_wp2
                go_ret
                exact ⟨by first | rfl | (simp; done) | (simp [*]; done), by repeat (first | exact Drawn0.refl _ | apply Drawn0.step)⟩

end Go.Proofs.YtglajokjiphafaaDoor.P

namespace Go.Proofs.YtglajokjiphafaaDoor.P
open Go.RowKit Go.Proofs.YtglajokjiphafaaDoorW.PrintWords Go.Proofs.YtglajokjiphafaaDoorW.PrintLast Go.Proofs.YtglajokjiphafaaDoorW.PrintMore
attribute [local go_sem] max2_int min2_int max_two min_two max_three min_three max_four min_four   -- for this text's walks alone
set_option linter.unusedVariables false
set_option linter.unusedSimpArgs false

/-! ### neonwrightref05_chosen: function 50 -/
mutual
def neonwrightref05_chosen.l0 : Nat → Int → Int → Int → List (List Int) → Int → Option ((List (List Int)))
  | 0, _, _, _, _, _ => none
  | k + 1, x0, x1, x3, x9, x10 => if x10 < x0 then (if x10 = x3 then (neonwrightref05_chosen.l0 k x0 x1 x3 x9 (wrap64 (x10 + 1))) else ((neonwrightref05_chosen.f k x0 (wrap64 (x1 - 1)) (wrap64 (x10 + 1)) x3).bind fun t126 => (neonwrightref05_chosen.l1 k x0 x1 x3 x9 x10 t126 0))) else (some x9)
def neonwrightref05_chosen.l1 : Nat → Int → Int → Int → List (List Int) → Int → List (List Int) → Int → Option ((List (List Int)))
  | 0, _, _, _, _, _, _, _ => none
  | k + 1, x0, x1, x3, x9, x10, x11, x12 => if x12 < (x11.length : Int) then ((some (([x10] : List Int) : List Int)).bind fun y129 => (if 0 ≤ x12 then (if y129.length + (rd_L1 x11 x12).length < 17592186044416 then (if x9.length < 5864062014805 then (neonwrightref05_chosen.l1 k x0 x1 x3 (x9 ++ [(y129 ++ (rd_L1 x11 x12))]) x10 x11 (wrap64 (x12 + 1))) else (none)) else (none)) else (none))) else (neonwrightref05_chosen.l0 k x0 x1 x3 x9 (wrap64 (x10 + 1)))
def neonwrightref05_chosen.f : Nat → Int → Int → Int → Int → Option ((List (List Int)))
  | 0, _, _, _, _ => none
  | k + 1, a0, a1, a2, a3 => if a1 = 0 then (some (([[]] : List (List Int)))) else (neonwrightref05_chosen.l0 k a0 a1 a3 ([] : List (List Int)) a2)
end
theorem neonwrightref05_chosen.mono_l : ∀ k, (∀ y0 y1 y2 y3, LeO (neonwrightref05_chosen.f k y0 y1 y2 y3) (neonwrightref05_chosen.f (k + 1) y0 y1 y2 y3)) ∧ (∀ y0 y1 y2 y3 y4, LeO (neonwrightref05_chosen.l0 k y0 y1 y2 y3 y4) (neonwrightref05_chosen.l0 (k + 1) y0 y1 y2 y3 y4)) ∧ (∀ y0 y1 y2 y3 y4 y5 y6, LeO (neonwrightref05_chosen.l1 k y0 y1 y2 y3 y4 y5 y6) (neonwrightref05_chosen.l1 (k + 1) y0 y1 y2 y3 y4 y5 y6))
  | 0 => ⟨fun _ _ _ _ r h => by simp [neonwrightref05_chosen.f] at h, fun _ _ _ _ _ r h => by simp [neonwrightref05_chosen.l0] at h, fun _ _ _ _ _ _ _ r h => by simp [neonwrightref05_chosen.l1] at h⟩
  | k + 1 => by
    obtain ⟨ih0, ih1, ih2⟩ := neonwrightref05_chosen.mono_l k
    refine ⟨?_, ?_, ?_⟩
    · intro y0 y1 y2 y3
      unfold neonwrightref05_chosen.f
      repeat' first
      | (with_reducible exact ih0 _ _ _ _)
      | (with_reducible exact ih1 _ _ _ _ _)
      | (with_reducible exact ih2 _ _ _ _ _ _ _)
      | (with_reducible exact LeO.refl _)
      | (with_reducible exact LeO.none _)
      | (with_reducible refine LeO.ite ?_ ?_)
      | (with_reducible refine LeO.bind ?_ (fun _ => ?_))
      | exact ih0 _ _ _ _
      | exact ih1 _ _ _ _ _
      | exact ih2 _ _ _ _ _ _ _
      | exact LeO.none _
      | refine LeO.ite ?_ ?_
      | refine LeO.bind ?_ (fun _ => ?_)
    · intro y0 y1 y2 y3 y4
      unfold neonwrightref05_chosen.l0
      repeat' first
      | (with_reducible exact ih0 _ _ _ _)
      | (with_reducible exact ih1 _ _ _ _ _)
      | (with_reducible exact ih2 _ _ _ _ _ _ _)
      | (with_reducible exact LeO.refl _)
      | (with_reducible exact LeO.none _)
      | (with_reducible refine LeO.ite ?_ ?_)
      | (with_reducible refine LeO.bind ?_ (fun _ => ?_))
      | exact ih0 _ _ _ _
      | exact ih1 _ _ _ _ _
      | exact ih2 _ _ _ _ _ _ _
      | exact LeO.none _
      | refine LeO.ite ?_ ?_
      | refine LeO.bind ?_ (fun _ => ?_)
    · intro y0 y1 y2 y3 y4 y5 y6
      unfold neonwrightref05_chosen.l1
      repeat' first
      | (with_reducible exact ih0 _ _ _ _)
      | (with_reducible exact ih1 _ _ _ _ _)
      | (with_reducible exact ih2 _ _ _ _ _ _ _)
      | (with_reducible exact LeO.refl _)
      | (with_reducible exact LeO.none _)
      | (with_reducible refine LeO.ite ?_ ?_)
      | (with_reducible refine LeO.bind ?_ (fun _ => ?_))
      | exact ih0 _ _ _ _
      | exact ih1 _ _ _ _ _
      | exact ih2 _ _ _ _ _ _ _
      | exact LeO.none _
      | refine LeO.ite ?_ ?_
      | refine LeO.bind ?_ (fun _ => ?_)
theorem neonwrightref05_chosen.mono : ∀ a0 a1 a2 a3 k, LeO (neonwrightref05_chosen.f k a0 a1 a2 a3) (neonwrightref05_chosen.f (k + 1) a0 a1 a2 a3) := by
  intro a0 a1 a2 a3 k
  obtain ⟨ih0, ih1, ih2⟩ := neonwrightref05_chosen.mono_l k
  exact ih0 a0 a1 a2 a3
set_option maxHeartbeats 8000000 in
set_option maxRecDepth 100000 in
theorem neonwrightref05_chosen.calls (k : Nat) : ∀ (a0 : Int) (a1 : Int) (a2 : Int) (a3 : Int) (r : List (List Int)) (w : World) (h : neonwrightref05_chosen.f k a0 a1 a2 a3 = some r),
    Calls Tryd.prog 50 #[.int .i64 a0, .int .i64 a1, .int .i64 a2, .int .i64 a3] w fun e w' => ∃ v0_ : Value, e = .returned (v0_) ∧ Kd.S (Kd.slice 3 (Kd.int .i64)) 25 w' w.heap.size (fun _ => True) v0_ r ∧ Below w.heap.size w w' := by
  induction k using Nat.strongRecOn with
  | _ k ih =>
  intro a0 a1 a2 a3 r w h
  cases k with
  | zero => exact absurd h (by simp [neonwrightref05_chosen.f])
  | succ k =>
  simp only [neonwrightref05_chosen.f] at h
  have HB := Aside0.mk (Below.refl w.heap.size w)
  have H : (if a1 = 0 then (some (([[]] : List (List Int)))) else (neonwrightref05_chosen.l0 k a0 a1 a3 ([] : List (List Int)) a2)) = some r := h
  clear h
  by_cases c5 : a1 = 0
  · rw [if_pos c5] at H
    have c5b0 : (a1 == 0) = true := beq_iff_eq.mpr c5
    have c5b1 : (a1 != 0) = false := bne_eq_false_iff_eq.mpr c5
    clear c5
    obtain ⟨y123, hy123⟩ : ∃ y_ : List (List Int), y_ = (([[]] : List (List Int))) := ⟨_, rfl⟩
    replace H : (some y123) = some r := by first | (rw [hy123]; with_reducible exact H) | (have H2_ := (Option.bind_some _ _).symm.trans H; rw [hy123]; with_reducible exact H2_) | (have H2_ := (Option.bind_some _ _).symm.trans H; with_reducible exact H2_) | with_reducible exact H | (rw [hy123]; exact H) | exact H
    have Ny123 := Aside0.mk hy123
    clear hy123
    obtain rfl := Option.some.inj H
    go_enter Tryd.func50, Tryd.ntmps50
    go_wp2_with (first | ((with_reducible refine gate_dst (N := 16) rfl ?_); refine Kd.S_lit (Kd.slice 3 (Kd.int .i64)) _ 25 ?hg (N := 16) ?hd (xs := ([[]] : List (List Int))) (inner := [.slice none 0 0]) (ok := fun _ => True) (okp := fun _ => True) ?hr ?hp (fun _ hk => hk) trivial (Below.refl _ _) (Nat.le_refl _) (by simp) ?_; (case hd => rfl); (case hg => rfl); (case hr => first | (go_simp; done) | (go_simp; rfl)); (case hp => exact (Reps.one (show Kd.M (Kd.slice 3 (Kd.int .i64)) _ _ _ [] [.slice none 0 0] from ⟨_, rfl, Kd.R_nil _ _ _ _ _⟩) (Reps.none _ _))); intro v124 w6 ho7 hb hg_ hnew_; clear hg_ hnew_; (first | rw [← Ny123.out] at ho7 | (simp only [Int.reduceToNat] at ho7; rw [← Ny123.out] at ho7)); have n0_ := Aside0.mk (Kd.S_lower ho7 (below_size (by repeat (first | (with_reducible first | exact HB.out | apply below_alloc | apply pw_below_drewN | apply below_drew1) | exact HB.out)))); have n1_ := Aside0.mk (below_step (by repeat (first | (with_reducible first | exact HB.out | apply below_alloc | apply pw_below_drewN | apply below_drew1) | exact HB.out)) hb); clear HB; have HO125 := n0_; have HB := n1_; clear n0_ n1_; clear hb ho7))
    go_ret
    exact ⟨_, by first | rfl | (simp [errW_none, errW_some] <;> rfl) | (simp [*, errW_none, errW_some] <;> rfl), by (with_reducible repeat (first | apply Kd.S_alloc | apply Kd.S_drewN | apply Kd.S_drew)); exact HO125.out, by repeat (first | (with_reducible first | exact HB.out | apply below_alloc | apply pw_below_drewN | apply below_drew1) | exact HB.out)⟩
  · rw [if_neg c5] at H
    have c5b0 : (a1 == 0) = false := beq_eq_false_iff_ne.mpr c5
    have c5b1 : (a1 != 0) = true := bne_iff_ne.mpr c5
    have H' := Aside0.mk H
    clear H
    go_enter Tryd.func50, Tryd.ntmps50
    go_wp2
    go_loopg [9, 10] k (fun kq v9 v10 w' => ∃ (x9_1 : List (List Int)) (x10_1 : Int), v10 = .int .i64 x10_1 ∧ Aside0 (neonwrightref05_chosen.l0 kq a0 a1 a3 x9_1 x10_1 = some r) ∧ Aside0 (kq ≤ k) ∧ Aside0 (Kd.S (Kd.slice 3 (Kd.int .i64)) 25 w' w.heap.size (fun _ => True) v9 x9_1) ∧ Aside0 (Below w.heap.size w w'))
    case atStart => exact ⟨(([] : List (List Int))), (a2), (by first | rfl | (simp; done) | (simp [*]; done)), H', ⟨Nat.le_refl _⟩, ⟨by first | exact Kd.S_nil _ _ _ _ _ | exact Kd.N_nil _ _ _ _ _ | exact Kd.V_nil _ _ _ _ _ | exact Kd.Q_nil _ _ _ _ _ | exact Kd.R_nil _ _ _ _ _⟩, ⟨by repeat (first | (with_reducible first | exact HB.out | apply below_alloc | apply pw_below_drewN | apply below_drew1) | exact HB.out)⟩⟩
    case round =>
      clear H'
      try clear p2
      try clear c5
      try clear c5b0
      try clear c5b1
      obtain ⟨x9_1, x10_1, rfl, HA, HK1, HO_9, HB⟩ := hrel
      cases gk with
      | zero => exact absurd HA.out (by simp [neonwrightref05_chosen.l0])
      | succ k1 =>
        have H := HA.out
        clear HA
        simp only [neonwrightref05_chosen.l0] at H
        by_cases c8 : x10_1 < a0
        · rw [if_pos c8] at H
          have c8b0 : decide (x10_1 < a0) = true := decide_eq_true c8
          clear c8
          by_cases c9 : x10_1 = a3
          · rw [if_pos c9] at H
            have c9b0 : (x10_1 == a3) = true := beq_iff_eq.mpr c9
            have c9b1 : (x10_1 != a3) = false := bne_eq_false_iff_eq.mpr c9
            clear c9
            have H' := Aside0.mk H
            clear H
            go_wp2
            go_roundg k1
            case measure => have := HK1.out; omega
            case rel => exact ⟨(x9_1), (wrap64 (x10_1 + 1)), (by first | rfl | (simp; done) | (simp [*]; done)), H', ⟨by have := HK1.out; omega⟩, ⟨by (with_reducible repeat (first | apply Kd.S_alloc | apply Kd.S_drewN | apply Kd.S_drew)); first | exact HO_9.out | exact Kd.R_mono HO_9.out (fun k_ h_ => ne_own_len h_)⟩, ⟨by repeat (first | (with_reducible first | exact HB.out | apply below_alloc | apply pw_below_drewN | apply below_drew1) | exact HB.out)⟩⟩
          · rw [if_neg c9] at H
            have c9b0 : (x10_1 == a3) = false := beq_eq_false_iff_ne.mpr c9
            have c9b1 : (x10_1 != a3) = true := bne_iff_ne.mpr c9
            replace H := Option.bind_eq_some_iff.mp H
            obtain ⟨t126, A100, H⟩ := H
            replace H : (neonwrightref05_chosen.l1 k1 a0 a1 a3 x9_1 x10_1 t126 0) = some r := H
            have A10 := Aside0.mk A100
            clear A100
            have H' := Aside0.mk H
            clear H
            go_wp2_with (first | ((with_reducible refine gate_callee (f := 50) rfl ?_); refine goesL_ (some 32) rfl rfl Tryd.func50 (by kernel_rfl) rfl #[.int .i64 a0, .int .i64 (wrap64 (a1 - 1)), .int .i64 (wrap64 (x10_1 + 1)), .int .i64 a3] rfl (by (try simp only [List.map_toArray, List.map_cons, List.map_nil]); first | done | rfl | (simp only [List.length_drop, List.length_take]; rfl)) ?_; (with_reducible refine (ih k1 (by have := HK1.out; omega) a0 (wrap64 (a1 - 1)) (wrap64 (x10_1 + 1)) a3 t126 _ A10.out).mono ?_); rintro e w11 ⟨v127, rfl, ho0, hb⟩; refine ⟨_, rfl, ?_⟩; have n0_ := Aside0.mk (Kd.S_elder' (by (with_reducible repeat (first | apply Kd.S_alloc | apply Kd.S_drewN | apply Kd.S_drew)); exact HO_9.out) (Kd.S_base ho0) hb); have n1_ := Aside0.mk (Kd.S_lower (Kd.S_new' ho0 (Kd.S_lt (by (with_reducible repeat (first | apply Kd.S_alloc | apply Kd.S_drewN | apply Kd.S_drew)); exact HO_9.out))) (below_size (by repeat (first | (with_reducible first | exact HB.out | apply below_alloc | apply pw_below_drewN | apply below_drew1) | exact HB.out)))); have n2_ := Aside0.mk (below_step (by repeat (first | (with_reducible first | exact HB.out | apply below_alloc | apply pw_below_drewN | apply below_drew1) | exact HB.out)) hb); clear HO_9; clear HB; have HO_9 := n0_; have HO128 := n1_; have HB := n2_; clear n0_ n1_ n2_; (try clear hb); (try clear hb2); (try clear hk); (try clear hi); (try clear ho0)))
            go_loopg [9, 12] k1 (fun kq v9 v12 w' => ∃ (x9_2 : List (List Int)) (x12_2 : Int), v12 = .int .i64 x12_2 ∧ Aside0 (neonwrightref05_chosen.l1 kq a0 a1 a3 x9_2 x10_1 t126 x12_2 = some r) ∧ Aside0 (kq ≤ k1) ∧ Aside0 (Kd.S (Kd.slice 3 (Kd.int .i64)) 25 w' w.heap.size (fun k_ => some k_ ≠ (v127 : Value).ownBlock) v9 x9_2) ∧ Aside0 (Kd.S (Kd.slice 3 (Kd.int .i64)) 25 w' w.heap.size (fun k_ => some k_ ≠ (v9 : Value).ownBlock) v127 t126) ∧ Aside0 (Below w.heap.size w w'))
            case atStart => exact ⟨(x9_1), (0), (by first | rfl | (simp; done) | (simp [*]; done)), H', ⟨Nat.le_refl _⟩, ⟨by (with_reducible repeat (first | apply Kd.S_alloc | apply Kd.S_drewN | apply Kd.S_drew)); exact Kd.S_mono HO_9.out (fun _ hk => hk.2)⟩, ⟨by (with_reducible repeat (first | apply Kd.S_alloc | apply Kd.S_drewN | apply Kd.S_drew)); exact Kd.S_mono HO128.out (fun _ hk => hk.2)⟩, ⟨by repeat (first | (with_reducible first | exact HB.out | apply below_alloc | apply pw_below_drewN | apply below_drew1) | exact HB.out)⟩⟩
            case round =>
              clear H'
              try clear p2
              try clear c5
              try clear c5b0
              try clear c5b1
              try clear p6
              try clear c8
              try clear c8b0
              try clear c9
              try clear c9b0
              try clear c9b1
              try clear p2
              obtain ⟨x9_2, x12_2, rfl, HA, HK2, HO_9, HO_11, HB⟩ := hrel
              cases gk with
              | zero => exact absurd HA.out (by simp [neonwrightref05_chosen.l1])
              | succ k2 =>
                have H := HA.out
                clear HA
                simp only [neonwrightref05_chosen.l1] at H
                by_cases c12 : x12_2 < (t126.length : Int)
                · rw [if_pos c12] at H
                  have c12b0 : decide (x12_2 < (t126.length : Int)) = true := decide_eq_true c12
                  clear c12
                  obtain ⟨y129, hy129⟩ : ∃ y_ : List Int, y_ = (([x10_1] : List Int)) := ⟨_, rfl⟩
                  replace H : (if 0 ≤ x12_2 then (if y129.length + (rd_L1 t126 x12_2).length < 17592186044416 then (if x9_2.length < 5864062014805 then (neonwrightref05_chosen.l1 k2 a0 a1 a3 (x9_2 ++ [(y129 ++ (rd_L1 t126 x12_2))]) x10_1 t126 (wrap64 (x12_2 + 1))) else (none)) else (none)) else (none)) = some r := by first | (rw [hy129]; with_reducible exact H) | (have H2_ := (Option.bind_some _ _).symm.trans H; rw [hy129]; with_reducible exact H2_) | (have H2_ := (Option.bind_some _ _).symm.trans H; with_reducible exact H2_) | with_reducible exact H | (rw [hy129]; exact H) | exact H
                  have Ny129 := Aside0.mk hy129
                  clear hy129
                  by_cases c13 : 0 ≤ x12_2
                  · rw [if_pos c13] at H
                    have c13b0 : decide (0 ≤ x12_2) = true := decide_eq_true c13
                    clear c13
                    by_cases c14 : y129.length + (rd_L1 t126 x12_2).length < 17592186044416
                    · rw [if_pos c14] at H
                      have LMc14 := Aside0.mk c14
                      clear c14
                      obtain ⟨y133, hy133⟩ : ∃ y_ : List Int, y_ = (y129 ++ (rd_L1 t126 x12_2)) := ⟨_, rfl⟩
                      replace H : (if x9_2.length < 5864062014805 then (neonwrightref05_chosen.l1 k2 a0 a1 a3 (x9_2 ++ [y133]) x10_1 t126 (wrap64 (x12_2 + 1))) else (none)) = some r := by first | (rw [hy133]; with_reducible exact H) | (have H2_ := (Option.bind_some _ _).symm.trans H; rw [hy133]; with_reducible exact H2_) | (have H2_ := (Option.bind_some _ _).symm.trans H; with_reducible exact H2_) | with_reducible exact H | (rw [hy133]; exact H) | exact H
                      have Ny133 := Aside0.mk hy133
                      clear hy133
                      by_cases c15 : x9_2.length < 5864062014805
                      · rw [if_pos c15] at H
                        have LMc15 := Aside0.mk c15
                        clear c15
                        obtain ⟨y136, hy136⟩ : ∃ y_ : List (List Int), y_ = (x9_2 ++ [y133]) := ⟨_, rfl⟩
                        replace H : (neonwrightref05_chosen.l1 k2 a0 a1 a3 y136 x10_1 t126 (wrap64 (x12_2 + 1))) = some r := by first | (rw [hy136]; with_reducible exact H) | (have H2_ := (Option.bind_some _ _).symm.trans H; rw [hy136]; with_reducible exact H2_) | (have H2_ := (Option.bind_some _ _).symm.trans H; with_reducible exact H2_) | with_reducible exact H | (rw [hy136]; exact H) | exact H
                        have Ny136 := Aside0.mk hy136
                        clear hy136
                        have H' := Aside0.mk H
                        clear H
                        obtain ⟨Ao16, co16, eo16⟩ := Kd.S_slice HO_11.out
                        subst eo16
                        go_wp2_with (first | ((with_reducible refine gate_dst (N := 40) rfl ?_); refine Kd.R_lit (Kd.int .i64) _ 3 ?hg (N := 40) ?hd (xs := ([x10_1] : List Int)) (inner := [.int .i64 x10_1]) (ok := fun _ => True) (okp := fun _ => True) ?hr ?hp (fun _ hk => hk) trivial (Below.refl _ _) (Nat.le_refl _) (by simp) ?_; (case hd => rfl); (case hg => rfl); (case hr => first | (go_simp; done) | (go_simp; rfl)); (case hp => exact (Reps.one (show Kd.M (Kd.int .i64) _ _ _ x10_1 [.int .i64 x10_1] from rfl) (Reps.none _ _))); intro v130 w17 ho18 hb hg_ hnew_; clear hg_ hnew_; (first | rw [← Ny129.out] at ho18 | (simp only [Int.reduceToNat] at ho18; rw [← Ny129.out] at ho18)); have n0_ := Aside0.mk (Kd.S_elder' (by (with_reducible repeat (first | apply Kd.S_alloc | apply Kd.S_drewN | apply Kd.S_drew)); exact HO_9.out) (Kd.R_base ho18) hb); have n1_ := Aside0.mk (Kd.S_elder' (by (with_reducible repeat (first | apply Kd.S_alloc | apply Kd.S_drewN | apply Kd.S_drew)); exact HO_11.out) (Kd.R_base ho18) hb); have n2_ := Aside0.mk (Kd.R_lower ho18 (below_size (by repeat (first | (with_reducible first | exact HB.out | apply below_alloc | apply pw_below_drewN | apply below_drew1) | exact HB.out)))); have n3_ := Aside0.mk (below_step (by repeat (first | (with_reducible first | exact HB.out | apply below_alloc | apply pw_below_drewN | apply below_drew1) | exact HB.out)) hb); clear HO_9; clear HO_11; clear HB; have HO_9 := n0_; have HO_11 := n1_; have HO131 := n2_; have HB := n3_; clear n0_ n1_ n2_ n3_; clear hb ho18; have p132 : 0 ≤ (x12_2 : Int) := of_decide_eq_true (by first | (with_reducible assumption) | assumption); have q132 : x12_2 < (t126.length : Int) := of_decide_eq_true (by first | (with_reducible assumption) | assumption); obtain ⟨ad132, A132_0, c132_0, e132, hx132_0, hl132_0, hi132_0⟩ := at_L1 (Kd.S_reads' HO_11.out).2.2 x12_2 p132 q132; cases e132; obtain ⟨ce132, hce132, hMe132, hcc132⟩ := Kd.S_get HO_11.out [] x12_2 p132 (by first | exact q132 | exact of_decide_eq_true (by first | (with_reducible assumption) | assumption) | (have e_ := (Kd.S_reads' HO_11.out).1; omega)); obtain ⟨ve132_0, rfl, ge132_0⟩ := hMe132; have hv132_0 := hcc132 0 _ rfl; rw [Nat.add_zero, show ((Kd.slice 3 (Kd.int .i64))).sz = 1 from rfl, Nat.mul_one] at hv132_0; replace hv132_0 := Option.some.inj (hv132_0.symm.trans hx132_0); rw [hv132_0] at ge132_0; have HL132_0 := Aside0.mk (show Kd.R (Kd.int .i64) 3 _ _ _ _ (rd_L1 t126 x12_2) from ge132_0); clear hv132_0 ge132_0; clear hcc132 hce132; have HR132_0 := Aside0.mk hi132_0; have HC132_0 := Aside0.mk hl132_0; clear hi132_0 hl132_0; replace p132 := eq_true p132; replace q132 := eq_true q132) | ((with_reducible refine gate_builtin (b := .append) (xs := #[.tmp 42, .tmp 46]) rfl ?_); at_builtin; refine Kd.R_append_rows (Kd.int .i64) (w0 := w) w.heap.size rfl (.tmp 42) (.tmp 46) 25 3 (.int .i64 0) 8 rfl Tryd.underlying25 info3 rfl (by decide) (by omega) v130 y129 (rd_L1 t126 x12_2) _ _ _ (fun _ => True) (fun _ => False) rfl rfl ?aO ?aR (fun _ _ h => h) (fun _ h => h.elim) ?aF ?aB ?aS ?aL ?_; (case aR => repeat (first | exact (by repeat (first | (with_reducible exact HR132_0.out) | (with_reducible refine Kd.C_alloc ?_ _) | (with_reducible refine Kd.C_drewN ?_ _) | (with_reducible refine Kd.C_drew ?_) | exact HR132_0.out)) | (with_reducible refine Kd.C_alloc ?_ _) | (with_reducible refine Kd.C_drewN ?_ _) | (with_reducible refine Kd.C_drew ?_))); (case aB => exact (by repeat (first | (with_reducible first | exact HB.out | apply below_alloc | apply pw_below_drewN | apply below_drew1) | exact HB.out))); (case aF => exact (fun _ _ => trivial)); (case aO => exact (by (with_reducible repeat (first | apply Kd.R_alloc | apply Kd.R_drewN | apply Kd.R_drew)); exact HO131.out)); (case aS => exact (below_size (by repeat (first | (with_reducible first | exact HB.out | apply below_alloc | apply pw_below_drewN | apply below_drew1) | exact HB.out)))); (case aL => have := LMc14.out; omega); intro v134 w19 ho hb hg hat; rw [← Ny133.out] at ho; have n0_ := Aside0.mk (Kd.S_after (ok := (fun k_ => some k_ ≠ (.slice (some ad132) t126.length co16 : Value).ownBlock)) (by (with_reducible repeat (first | apply Kd.S_alloc | apply Kd.S_drewN | apply Kd.S_drew)); exact HO_9.out) hg hat); have n1_ := Aside0.mk (Kd.S_after (ok := (fun k_ => some k_ ≠ (u9 : Value).ownBlock)) (by (with_reducible repeat (first | apply Kd.S_alloc | apply Kd.S_drewN | apply Kd.S_drew)); exact HO_11.out) hg hat); have n2_ := Aside0.mk (Kd.R_after (ok := (fun k_ => some k_ ≠ (u9 : Value).ownBlock ∧ some k_ ≠ (.slice (some ad132) t126.length co16 : Value).ownBlock)) (by (with_reducible repeat (first | apply Kd.R_alloc | apply Kd.R_drewN | apply Kd.R_drew)); exact Kd.R_mono HL132_0.out (fun _ hk => ⟨⟨hk.1.1, hk.2⟩, hk.1.2⟩)) hg hat); have n3_ := Aside0.mk (hb); have n4_ := Aside0.mk (ho); clear HO_9; clear HO_11; clear HL132_0; clear HB; clear HO131; have HO_9 := n0_; have HO_11 := n1_; have HL132_0 := n2_; have HB := n3_; have HO135 := n4_; clear n0_ n1_ n2_ n3_ n4_; clear ho hb hg hat; obtain ⟨Ao21, co21, eo21⟩ := Kd.R_slice HO135.out; subst eo21) | ((with_reducible refine gate_builtin (b := .append) (xs := #[.tmp 41, .tmp 48]) rfl ?_); at_builtin; refine Kd.S_append (Kd.slice 3 (Kd.int .i64)) (w0 := w) w.heap.size rfl (.tmp 41) (.tmp 48) 22 25 (.slice none 0 0) 24 rfl Tryd.underlying22 info25 rfl (by decide) (by omega) u9 x9_2 y133 [.slice Ao21 y133.length co21] (fun k_ => some k_ ≠ (.slice (some ad132) t126.length co16 : Value).ownBlock) (fun k_ => some k_ = (.slice Ao21 y133.length co21 : Value).ownBlock) rfl rfl ?aP (fun k_ hk_ => ((Kd.R_mono (ok' := fun k_ => ((fun k_ => some k_ ≠ (.slice (some ad132) t126.length co16 : Value).ownBlock)) k_ ∧ some k_ ≠ (u9 : Value).ownBlock) (Kd.R_apart' (Kd.R_apart' (HO135.out) (Kd.S_typed HO_11.out) (by decide)) (Kd.S_typed HO_9.out) (by decide)) (fun k_ hk => ⟨hk.1.2, hk.2⟩))).1 k_ hk_.symm) ?aF ?aO ?aB ?aS ?aL ?_; (case aP => exact Kd.M_row (Kd.R_mono (Kd.R_tight rfl (Kd.R_mono (ok' := fun k_ => ((fun k_ => some k_ ≠ (.slice (some ad132) t126.length co16 : Value).ownBlock)) k_ ∧ some k_ ≠ (u9 : Value).ownBlock) (Kd.R_apart' (Kd.R_apart' (HO135.out) (Kd.S_typed HO_11.out) (by decide)) (Kd.S_typed HO_9.out) (by decide)) (fun k_ hk => ⟨hk.1.2, hk.2⟩))) (fun _ h_ => h_))); (case aB => exact (by repeat (first | (with_reducible first | exact HB.out | apply below_alloc | apply pw_below_drewN | apply below_drew1) | exact HB.out))); (case aF => exact (fun k_ hk => Kd.fresh' (Kd.S_lt (by (with_reducible repeat (first | apply Kd.S_alloc | apply Kd.S_drewN | apply Kd.S_drew)); exact HO_11.out)) k_ hk)); (case aO => exact (by (with_reducible repeat (first | apply Kd.S_alloc | apply Kd.S_drewN | apply Kd.S_drew)); exact Kd.S_mono HO_9.out (fun k_ hk => ⟨hk.1, fun e_ => hk.2 e_⟩))); (case aS => exact (below_size (by repeat (first | (with_reducible first | exact HB.out | apply below_alloc | apply pw_below_drewN | apply below_drew1) | exact HB.out)))); (case aL => have := LMc15.out; omega); intro v137 w20 ho hb hg hat; rw [← Ny136.out] at ho; have n0_ := Aside0.mk (Kd.S_after (ok := (fun k_ => some k_ ≠ (.slice Ao21 y133.length co21 : Value).ownBlock)) (by (with_reducible repeat (first | apply Kd.S_alloc | apply Kd.S_drewN | apply Kd.S_drew)); exact Kd.S_mono HO_11.out (fun _ hk => ⟨hk.2, hk.1⟩)) hg hat); have n1_ := Aside0.mk (Kd.R_after (ok := (fun k_ => some k_ ≠ (.slice (some ad132) t126.length co16 : Value).ownBlock ∧ some k_ ≠ (.slice Ao21 y133.length co21 : Value).ownBlock)) (by (with_reducible repeat (first | apply Kd.R_alloc | apply Kd.R_drewN | apply Kd.R_drew)); exact Kd.R_mono HL132_0.out (fun _ hk => ⟨⟨hk.1.2, hk.2⟩, hk.1.1⟩)) hg hat); have n2_ := Aside0.mk (hb); have n3_ := Aside0.mk (ho); clear HO_11; clear HL132_0; clear HB; clear HO_9; clear HO135; have HO_11 := n0_; have HL132_0 := n1_; have HB := n2_; have HO138 := n3_; clear n0_ n1_ n2_ n3_; clear ho hb hg hat))
                        go_roundg k2
                        case measure => have := HK1.out; have := HK2.out; omega
                        case rel => exact ⟨(y136), (wrap64 (x12_2 + 1)), (by first | rfl | (simp; done) | (simp [*]; done)), H', ⟨by have := HK1.out; have := HK2.out; omega⟩, ⟨by (with_reducible repeat (first | apply Kd.S_alloc | apply Kd.S_drewN | apply Kd.S_drew)); first | exact HO138.out | exact Kd.R_mono HO138.out (fun k_ h_ => ne_own_len h_)⟩, ⟨by (with_reducible repeat (first | apply Kd.S_alloc | apply Kd.S_drewN | apply Kd.S_drew)); exact Kd.S_mono HO_11.out (fun _ hk => hk.2)⟩, ⟨by repeat (first | (with_reducible first | exact HB.out | apply below_alloc | apply pw_below_drewN | apply below_drew1) | exact HB.out)⟩⟩
                      · rw [if_neg c15] at H
                        exact absurd H (by simp)
                    · rw [if_neg c14] at H
                      exact absurd H (by simp)
                  · rw [if_neg c13] at H
                    exact absurd H (by simp)
                · rw [if_neg c12] at H
                  have c12b0 : decide (x12_2 < (t126.length : Int)) = false := decide_eq_false c12
                  clear c12
                  have H' := Aside0.mk H
                  clear H
                  obtain ⟨Ao22, co22, eo22⟩ := Kd.S_slice HO_11.out
                  subst eo22
                  go_wp2
                  go_roundg k2
                  case measure => have := HK1.out; have := HK2.out; omega
                  case rel => exact ⟨(x9_2), (wrap64 (x10_1 + 1)), (by first | rfl | (simp; done) | (simp [*]; done)), H', ⟨by have := HK1.out; have := HK2.out; omega⟩, ⟨by (with_reducible repeat (first | apply Kd.S_alloc | apply Kd.S_drewN | apply Kd.S_drew)); exact Kd.S_mono HO_9.out (fun _ hk => trivial)⟩, ⟨by repeat (first | (with_reducible first | exact HB.out | apply below_alloc | apply pw_below_drewN | apply below_drew1) | exact HB.out)⟩⟩
        · rw [if_neg c8] at H
          have c8b0 : decide (x10_1 < a0) = false := decide_eq_false c8
          clear c8
          obtain rfl := Option.some.inj H
          go_wp2
          go_ret
          exact ⟨_, by first | rfl | (simp [errW_none, errW_some] <;> rfl) | (simp [*, errW_none, errW_some] <;> rfl), by (with_reducible repeat (first | apply Kd.S_alloc | apply Kd.S_drewN | apply Kd.S_drew)); exact HO_9.out, by repeat (first | (with_reducible first | exact HB.out | apply below_alloc | apply pw_below_drewN | apply below_drew1) | exact HB.out)⟩

end Go.Proofs.YtglajokjiphafaaDoor.P

namespace Go.Proofs.YtglajokjiphafaaDoor.P
open Go.RowKit Go.Proofs.YtglajokjiphafaaDoorW.PrintWords Go.Proofs.YtglajokjiphafaaDoorW.PrintLast Go.Proofs.YtglajokjiphafaaDoorW.PrintMore
attribute [local go_sem] max2_int min2_int max_two min_two max_three min_three max_four min_four   -- for this text's walks alone
set_option linter.unusedVariables false
set_option linter.unusedSimpArgs false

/-! ### neonwrightref05_has: function 73 -/
def neonwrightref05_has.l0 : Nat → List Int → Int → Int → Option (Bool)
  | 0, _, _, _ => none
  | k + 1, x0, x1, x5 => if x5 < (x0.length : Int) then (if 0 ≤ x5 then (if (rd x0 x5) = x1 then (some true) else (neonwrightref05_has.l0 k x0 x1 (wrap64 (x5 + 1)))) else (none)) else (some false)
def neonwrightref05_has.f (k : Nat) (l0 : List Int) (a1 : Int) : Option (Bool) := neonwrightref05_has.l0 k l0 a1 0
theorem neonwrightref05_has.mono_l : ∀ k, (∀ y0 y1 y2, LeO (neonwrightref05_has.l0 k y0 y1 y2) (neonwrightref05_has.l0 (k + 1) y0 y1 y2))
  | 0 => fun _ _ _ r h => by simp [neonwrightref05_has.l0] at h
  | k + 1 => by
    have ih0 := neonwrightref05_has.mono_l k
    · intro y0 y1 y2
      unfold neonwrightref05_has.l0
      repeat' first
      | (with_reducible exact ih0 _ _ _)
      | (with_reducible exact LeO.refl _)
      | (with_reducible exact LeO.none _)
      | (with_reducible refine LeO.ite ?_ ?_)
      | (with_reducible refine LeO.bind ?_ (fun _ => ?_))
      | exact ih0 _ _ _
      | exact LeO.none _
      | refine LeO.ite ?_ ?_
      | refine LeO.bind ?_ (fun _ => ?_)
theorem neonwrightref05_has.mono : ∀ a0 a1 k, LeO (neonwrightref05_has.f k a0 a1) (neonwrightref05_has.f (k + 1) a0 a1) := by
  intro a0 a1 k
  have ih0 := neonwrightref05_has.mono_l k
  unfold neonwrightref05_has.f
  repeat' first
      | (with_reducible exact ih0 _ _ _)
      | (with_reducible exact LeO.refl _)
      | (with_reducible exact LeO.none _)
      | (with_reducible refine LeO.ite ?_ ?_)
      | (with_reducible refine LeO.bind ?_ (fun _ => ?_))
      | exact ih0 _ _ _
      | exact LeO.none _
      | refine LeO.ite ?_ ?_
      | refine LeO.bind ?_ (fun _ => ?_)
set_option maxHeartbeats 8000000 in
set_option maxRecDepth 100000 in
theorem neonwrightref05_has.calls (k : Nat) (A0 : Option Addr) (c0 : Nat) (l0 : List Int) (a1 : Int) (r : Bool) (w : World) (hr0 : Kd.C (Kd.int .i64) w A0 l0.length l0) (hc0 : l0.length ≤ c0) (h : neonwrightref05_has.f k l0 a1 = some r) :
    Calls Tryd.prog 73 #[.slice A0 l0.length c0, .int .i64 a1] w fun e w' => e = .returned (.bool r) ∧ Drawn0 w w' := by
  have HR0 := Aside0.mk hr0
  have HC0 := Aside0.mk hc0
  clear hr0 hc0
  have H : (neonwrightref05_has.l0 k l0 a1 0) = some r := h
  clear h
  have H' := Aside0.mk H
  clear H
  go_enter Tryd.func73, Tryd.ntmps73
  go_wp2
  go_loopg [5] k (fun kq v5 w' => ∃ (x5_1 : Int), v5 = .int .i64 x5_1 ∧ Aside0 (neonwrightref05_has.l0 kq l0 a1 x5_1 = some r) ∧ Aside0 (kq ≤ k) ∧ Drawn0 w w')
  case atStart => exact ⟨(0), (by first | rfl | (simp; done) | (simp [*]; done)), H', ⟨Nat.le_refl _⟩, by repeat (first | exact Drawn0.refl _ | apply Drawn0.step)⟩
  case round =>
    clear H'
    try clear p2
    obtain ⟨x5_1, rfl, HA, HK1, ⟨m1, rfl⟩⟩ := hrel
    cases gk with
    | zero => exact absurd HA.out (by simp [neonwrightref05_has.l0])
    | succ k1 =>
      have H := HA.out
      clear HA
      simp only [neonwrightref05_has.l0] at H
      by_cases c3 : x5_1 < (l0.length : Int)
      · rw [if_pos c3] at H
        have c3b0 : decide (x5_1 < (l0.length : Int)) = true := decide_eq_true c3
        clear c3
        by_cases c4 : 0 ≤ x5_1
        · rw [if_pos c4] at H
          have c4b0 : decide (0 ≤ x5_1) = true := decide_eq_true c4
          clear c4
          by_cases c5 : (rd l0 x5_1) = a1
          · rw [if_pos c5] at H
            have c5b0 : ((rd l0 x5_1) == a1) = true := beq_iff_eq.mpr c5
            have c5b1 : ((rd l0 x5_1) != a1) = false := bne_eq_false_iff_eq.mpr c5
            clear c5
            obtain rfl := Option.some.inj H
            have p139 : 0 ≤ (x5_1 : Int) := of_decide_eq_true (by first | (with_reducible assumption) | assumption)
            have q139 : x5_1 < (l0.length : Int) := of_decide_eq_true (by first | (with_reducible assumption) | assumption)
            obtain ⟨ad139, e139, hx139_0⟩ := Kd.at_int HR0.out x5_1 p139 q139
            cases e139
            replace p139 := eq_true p139
            replace q139 := eq_true q139
            go_wp2
            go_ret
            exact ⟨by first | rfl | (simp; done) | (simp [*]; done), by repeat (first | exact Drawn0.refl _ | apply Drawn0.step)⟩
          · rw [if_neg c5] at H
            have c5b0 : ((rd l0 x5_1) == a1) = false := beq_eq_false_iff_ne.mpr c5
            have c5b1 : ((rd l0 x5_1) != a1) = true := bne_iff_ne.mpr c5
            have H' := Aside0.mk H
            clear H
            have p139 : 0 ≤ (x5_1 : Int) := of_decide_eq_true (by first | (with_reducible assumption) | assumption)
            have q139 : x5_1 < (l0.length : Int) := of_decide_eq_true (by first | (with_reducible assumption) | assumption)
            obtain ⟨ad139, e139, hx139_0⟩ := Kd.at_int HR0.out x5_1 p139 q139
            cases e139
            replace p139 := eq_true p139
            replace q139 := eq_true q139
            go_wp2
            go_roundg k1
            case measure => have := HK1.out; omega
            case rel => exact ⟨(wrap64 (x5_1 + 1)), (by first | rfl | (simp; done) | (simp [*]; done)), H', ⟨by have := HK1.out; omega⟩, by repeat (first | exact Drawn0.refl _ | apply Drawn0.step)⟩
        · rw [if_neg c4] at H
          exact absurd H (by simp)
      · rw [if_neg c3] at H
        have c3b0 : decide (x5_1 < (l0.length : Int)) = false := decide_eq_false c3
        clear c3
        obtain rfl := Option.some.inj H
        go_wp2
        go_ret
        exact ⟨by first | rfl | (simp; done) | (simp [*]; done), by repeat (first | exact Drawn0.refl _ | apply Drawn0.step)⟩

end Go.Proofs.YtglajokjiphafaaDoor.P

namespace Go.Proofs.YtglajokjiphafaaDoor.P
open Go.RowKit Go.Proofs.YtglajokjiphafaaDoorW.PrintWords Go.Proofs.YtglajokjiphafaaDoorW.PrintLast Go.Proofs.YtglajokjiphafaaDoorW.PrintMore
attribute [local go_sem] max2_int min2_int max_two min_two max_three min_three max_four min_four   -- for this text's walks alone
set_option linter.unusedVariables false
set_option linter.unusedSimpArgs false

/-! ### neonwrightref05_meets: function 79 -/
def neonwrightref05_meets.l0 : Nat → List Int → List Int → Int → Option (Bool)
  | 0, _, _, _ => none
  | k + 1, x0, x1, x5 => if x5 < (x0.length : Int) then (if 0 ≤ x5 then ((neonwrightref05_has.f k x1 (rd x0 x5)).bind fun t141 => (if t141 = true then (some true) else (neonwrightref05_meets.l0 k x0 x1 (wrap64 (x5 + 1))))) else (none)) else (some false)
def neonwrightref05_meets.f (k : Nat) (l0 : List Int) (l1 : List Int) : Option (Bool) := neonwrightref05_meets.l0 k l0 l1 0
theorem neonwrightref05_meets.mono_l : ∀ k, (∀ y0 y1 y2, LeO (neonwrightref05_meets.l0 k y0 y1 y2) (neonwrightref05_meets.l0 (k + 1) y0 y1 y2))
  | 0 => fun _ _ _ r h => by simp [neonwrightref05_meets.l0] at h
  | k + 1 => by
    have ih0 := neonwrightref05_meets.mono_l k
    · intro y0 y1 y2
      unfold neonwrightref05_meets.l0
      repeat' first
      | (with_reducible exact ih0 _ _ _)
      | (with_reducible exact neonwrightref05_has.mono _ _ _)
      | (with_reducible exact LeO.refl _)
      | (with_reducible exact LeO.none _)
      | (with_reducible refine LeO.ite ?_ ?_)
      | (with_reducible refine LeO.bind ?_ (fun _ => ?_))
      | exact ih0 _ _ _
      | exact neonwrightref05_has.mono _ _ _
      | exact LeO.none _
      | refine LeO.ite ?_ ?_
      | refine LeO.bind ?_ (fun _ => ?_)
theorem neonwrightref05_meets.mono : ∀ a0 a1 k, LeO (neonwrightref05_meets.f k a0 a1) (neonwrightref05_meets.f (k + 1) a0 a1) := by
  intro a0 a1 k
  have ih0 := neonwrightref05_meets.mono_l k
  unfold neonwrightref05_meets.f
  repeat' first
      | (with_reducible exact ih0 _ _ _)
      | (with_reducible exact neonwrightref05_has.mono _ _ _)
      | (with_reducible exact LeO.refl _)
      | (with_reducible exact LeO.none _)
      | (with_reducible refine LeO.ite ?_ ?_)
      | (with_reducible refine LeO.bind ?_ (fun _ => ?_))
      | exact ih0 _ _ _
      | exact neonwrightref05_has.mono _ _ _
      | exact LeO.none _
      | refine LeO.ite ?_ ?_
      | refine LeO.bind ?_ (fun _ => ?_)
set_option maxHeartbeats 8000000 in
set_option maxRecDepth 100000 in
theorem neonwrightref05_meets.calls (k : Nat) (A0 : Option Addr) (c0 : Nat) (l0 : List Int) (A1 : Option Addr) (c1 : Nat) (l1 : List Int) (r : Bool) (w : World) (hr0 : Kd.C (Kd.int .i64) w A0 l0.length l0) (hc0 : l0.length ≤ c0) (hr1 : Kd.C (Kd.int .i64) w A1 l1.length l1) (hc1 : l1.length ≤ c1) (h : neonwrightref05_meets.f k l0 l1 = some r) :
    Calls Tryd.prog 79 #[.slice A0 l0.length c0, .slice A1 l1.length c1] w fun e w' => e = .returned (.bool r) ∧ Drawn0 w w' := by
  have HR0 := Aside0.mk hr0
  have HC0 := Aside0.mk hc0
  clear hr0 hc0
  have HR1 := Aside0.mk hr1
  have HC1 := Aside0.mk hc1
  clear hr1 hc1
  have H : (neonwrightref05_meets.l0 k l0 l1 0) = some r := h
  clear h
  have H' := Aside0.mk H
  clear H
  go_enter Tryd.func79, Tryd.ntmps79
  go_wp2
  go_loopg [5] k (fun kq v5 w' => ∃ (x5_1 : Int), v5 = .int .i64 x5_1 ∧ Aside0 (neonwrightref05_meets.l0 kq l0 l1 x5_1 = some r) ∧ Aside0 (kq ≤ k) ∧ Drawn0 w w')
  case atStart => exact ⟨(0), (by first | rfl | (simp; done) | (simp [*]; done)), H', ⟨Nat.le_refl _⟩, by repeat (first | exact Drawn0.refl _ | apply Drawn0.step)⟩
  case round =>
    clear H'
    try clear c1
    try clear p2
    obtain ⟨x5_1, rfl, HA, HK1, ⟨m1, rfl⟩⟩ := hrel
    cases gk with
    | zero => exact absurd HA.out (by simp [neonwrightref05_meets.l0])
    | succ k1 =>
      have H := HA.out
      clear HA
      simp only [neonwrightref05_meets.l0] at H
      by_cases c3 : x5_1 < (l0.length : Int)
      · rw [if_pos c3] at H
        have c3b0 : decide (x5_1 < (l0.length : Int)) = true := decide_eq_true c3
        clear c3
        by_cases c4 : 0 ≤ x5_1
        · rw [if_pos c4] at H
          have c4b0 : decide (0 ≤ x5_1) = true := decide_eq_true c4
          clear c4
          replace H := Option.bind_eq_some_iff.mp H
          obtain ⟨t141, A50, H⟩ := H
          replace H : (if t141 = true then (some true) else (neonwrightref05_meets.l0 k1 l0 l1 (wrap64 (x5_1 + 1)))) = some r := H
          have A5 := Aside0.mk A50
          clear A50
          by_cases c6 : t141 = true
          · subst c6
            have H1 : (some true) = some r := by rw [if_pos rfl] at H; exact H
            clear H
            have H := H1
            clear H1
            obtain rfl := Option.some.inj H
            have p140 : 0 ≤ (x5_1 : Int) := of_decide_eq_true (by first | (with_reducible assumption) | assumption)
            have q140 : x5_1 < (l0.length : Int) := of_decide_eq_true (by first | (with_reducible assumption) | assumption)
            obtain ⟨ad140, e140, hx140_0⟩ := Kd.at_int HR0.out x5_1 p140 q140
            cases e140
            replace p140 := eq_true p140
            replace q140 := eq_true q140
            go_wp2_with (first | ((with_reducible refine gate_callee (f := 73) rfl ?_); refine goesL_ (some 17) rfl rfl Tryd.func73 (by kernel_rfl) rfl #[.slice A1 l1.length c1, .int .i64 (rd l0 x5_1)] rfl (by (try simp only [List.map_toArray, List.map_cons, List.map_nil]); first | done | rfl | (simp only [List.length_drop, List.length_take]; rfl)) ?_; (with_reducible refine (neonwrightref05_has.calls k1 _ _ l1 (rd l0 x5_1) true _ ?side1 ?side2 A5.out).mono ?_); (case side1 => repeat (first | exact HR1.out | (with_reducible refine Kd.C_alloc ?_ _) | (with_reducible refine Kd.C_drewN ?_ _) | (with_reducible refine Kd.C_drew ?_))); (case side2 => exact HC1.out); rintro e w' ⟨rfl, ⟨nd, rfl⟩⟩; refine ⟨_, rfl, ?_⟩))
            go_ret
            exact ⟨by first | rfl | (simp; done) | (simp [*]; done), by repeat (first | exact Drawn0.refl _ | apply Drawn0.step)⟩
          · replace c6 := Bool.eq_false_iff.mpr c6
            subst c6
            have H1 : (neonwrightref05_meets.l0 k1 l0 l1 (wrap64 (x5_1 + 1))) = some r := by rw [if_neg (show ¬ (false = true) by decide)] at H; exact H
            clear H
            have H := H1
            clear H1
            have H' := Aside0.mk H
            clear H
            have p140 : 0 ≤ (x5_1 : Int) := of_decide_eq_true (by first | (with_reducible assumption) | assumption)
            have q140 : x5_1 < (l0.length : Int) := of_decide_eq_true (by first | (with_reducible assumption) | assumption)
            obtain ⟨ad140, e140, hx140_0⟩ := Kd.at_int HR0.out x5_1 p140 q140
            cases e140
            replace p140 := eq_true p140
            replace q140 := eq_true q140
            go_wp2_with (first | ((with_reducible refine gate_callee (f := 73) rfl ?_); refine goesL_ (some 17) rfl rfl Tryd.func73 (by kernel_rfl) rfl #[.slice A1 l1.length c1, .int .i64 (rd l0 x5_1)] rfl (by (try simp only [List.map_toArray, List.map_cons, List.map_nil]); first | done | rfl | (simp only [List.length_drop, List.length_take]; rfl)) ?_; (with_reducible refine (neonwrightref05_has.calls k1 _ _ l1 (rd l0 x5_1) false _ ?side1 ?side2 A5.out).mono ?_); (case side1 => repeat (first | exact HR1.out | (with_reducible refine Kd.C_alloc ?_ _) | (with_reducible refine Kd.C_drewN ?_ _) | (with_reducible refine Kd.C_drew ?_))); (case side2 => exact HC1.out); rintro e w' ⟨rfl, ⟨nd, rfl⟩⟩; refine ⟨_, rfl, ?_⟩))
            go_roundg k1
            case measure => have := HK1.out; omega
            case rel => exact ⟨(wrap64 (x5_1 + 1)), (by first | rfl | (simp; done) | (simp [*]; done)), H', ⟨by have := HK1.out; omega⟩, by repeat (first | exact Drawn0.refl _ | apply Drawn0.step)⟩
        · rw [if_neg c4] at H
          exact absurd H (by simp)
      · rw [if_neg c3] at H
        have c3b0 : decide (x5_1 < (l0.length : Int)) = false := decide_eq_false c3
        clear c3
        obtain rfl := Option.some.inj H
        go_wp2
        go_ret
        exact ⟨by first | rfl | (simp; done) | (simp [*]; done), by repeat (first | exact Drawn0.refl _ | apply Drawn0.step)⟩

end Go.Proofs.YtglajokjiphafaaDoor.P

namespace Go.Proofs.YtglajokjiphafaaDoor.P
open Go.RowKit Go.Proofs.YtglajokjiphafaaDoorW.PrintWords Go.Proofs.YtglajokjiphafaaDoorW.PrintLast Go.Proofs.YtglajokjiphafaaDoorW.PrintMore
attribute [local go_sem] max2_int min2_int max_two min_two max_three min_three max_four min_four   -- for this text's walks alone
set_option linter.unusedVariables false
set_option linter.unusedSimpArgs false

/-! ### neonwrightref05_hidden: function 51 -/
def neonwrightref05_hidden.l0 : Nat → List (List Int) → Int → List Int → Int → Option (Bool)
  | 0, _, _, _, _ => none
  | k + 1, x0, x1, x2, x7 => if x7 < (x0.length : Int) then (if 0 ≤ x7 then ((neonwrightref05_has.f k (rd_L1 x0 x7) x1).bind fun t143 => (if t143 = true then ((neonwrightref05_meets.f k (rd_L1 x0 x7) x2).bind fun t145 => (if t145 = true then (neonwrightref05_hidden.l0 k x0 x1 x2 (wrap64 (x7 + 1))) else (some false))) else (neonwrightref05_hidden.l0 k x0 x1 x2 (wrap64 (x7 + 1))))) else (none)) else (some true)
def neonwrightref05_hidden.f (k : Nat) (l0 : List (List Int)) (a1 : Int) (l2 : List Int) : Option (Bool) := neonwrightref05_hidden.l0 k l0 a1 l2 0
theorem neonwrightref05_hidden.mono_l : ∀ k, (∀ y0 y1 y2 y3, LeO (neonwrightref05_hidden.l0 k y0 y1 y2 y3) (neonwrightref05_hidden.l0 (k + 1) y0 y1 y2 y3))
  | 0 => fun _ _ _ _ r h => by simp [neonwrightref05_hidden.l0] at h
  | k + 1 => by
    have ih0 := neonwrightref05_hidden.mono_l k
    · intro y0 y1 y2 y3
      unfold neonwrightref05_hidden.l0
      repeat' first
      | (with_reducible exact ih0 _ _ _ _)
      | (with_reducible exact neonwrightref05_has.mono _ _ _)
      | (with_reducible exact neonwrightref05_meets.mono _ _ _)
      | (with_reducible exact LeO.refl _)
      | (with_reducible exact LeO.none _)
      | (with_reducible refine LeO.ite ?_ ?_)
      | (with_reducible refine LeO.bind ?_ (fun _ => ?_))
      | exact ih0 _ _ _ _
      | exact neonwrightref05_has.mono _ _ _
      | exact neonwrightref05_meets.mono _ _ _
      | exact LeO.none _
      | refine LeO.ite ?_ ?_
      | refine LeO.bind ?_ (fun _ => ?_)
theorem neonwrightref05_hidden.mono : ∀ a0 a1 a2 k, LeO (neonwrightref05_hidden.f k a0 a1 a2) (neonwrightref05_hidden.f (k + 1) a0 a1 a2) := by
  intro a0 a1 a2 k
  have ih0 := neonwrightref05_hidden.mono_l k
  unfold neonwrightref05_hidden.f
  repeat' first
      | (with_reducible exact ih0 _ _ _ _)
      | (with_reducible exact neonwrightref05_has.mono _ _ _)
      | (with_reducible exact neonwrightref05_meets.mono _ _ _)
      | (with_reducible exact LeO.refl _)
      | (with_reducible exact LeO.none _)
      | (with_reducible refine LeO.ite ?_ ?_)
      | (with_reducible refine LeO.bind ?_ (fun _ => ?_))
      | exact ih0 _ _ _ _
      | exact neonwrightref05_has.mono _ _ _
      | exact neonwrightref05_meets.mono _ _ _
      | exact LeO.none _
      | refine LeO.ite ?_ ?_
      | refine LeO.bind ?_ (fun _ => ?_)
set_option maxHeartbeats 8000000 in
set_option maxRecDepth 100000 in
theorem neonwrightref05_hidden.calls (k : Nat) (A0 : Option Addr) (c0 : Nat) (l0 : List (List Int)) (a1 : Int) (A2 : Option Addr) (c2 : Nat) (l2 : List Int) (r : Bool) (w : World) (hr0 : Kd.C (Kd.slice 3 (Kd.int .i64)) w A0 l0.length l0) (hc0 : l0.length ≤ c0) (hr2 : Kd.C (Kd.int .i64) w A2 l2.length l2) (hc2 : l2.length ≤ c2) (h : neonwrightref05_hidden.f k l0 a1 l2 = some r) :
    Calls Tryd.prog 51 #[.slice A0 l0.length c0, .int .i64 a1, .slice A2 l2.length c2] w fun e w' => e = .returned (.bool r) ∧ Drawn0 w w' := by
  have HR0 := Aside0.mk hr0
  have HC0 := Aside0.mk hc0
  clear hr0 hc0
  have HR2 := Aside0.mk hr2
  have HC2 := Aside0.mk hc2
  clear hr2 hc2
  have H : (neonwrightref05_hidden.l0 k l0 a1 l2 0) = some r := h
  clear h
  have H' := Aside0.mk H
  clear H
  go_enter Tryd.func51, Tryd.ntmps51
  go_wp2
  go_loopg [7] k (fun kq v7 w' => ∃ (x7_1 : Int), v7 = .int .i64 x7_1 ∧ Aside0 (neonwrightref05_hidden.l0 kq l0 a1 l2 x7_1 = some r) ∧ Aside0 (kq ≤ k) ∧ Drawn0 w w')
  case atStart => exact ⟨(0), (by first | rfl | (simp; done) | (simp [*]; done)), H', ⟨Nat.le_refl _⟩, by repeat (first | exact Drawn0.refl _ | apply Drawn0.step)⟩
  case round =>
    clear H'
    try clear c2
    try clear p2
    obtain ⟨x7_1, rfl, HA, HK1, ⟨m1, rfl⟩⟩ := hrel
    cases gk with
    | zero => exact absurd HA.out (by simp [neonwrightref05_hidden.l0])
    | succ k1 =>
      have H := HA.out
      clear HA
      simp only [neonwrightref05_hidden.l0] at H
      by_cases c4 : x7_1 < (l0.length : Int)
      · rw [if_pos c4] at H
        have c4b0 : decide (x7_1 < (l0.length : Int)) = true := decide_eq_true c4
        clear c4
        by_cases c5 : 0 ≤ x7_1
        · rw [if_pos c5] at H
          have c5b0 : decide (0 ≤ x7_1) = true := decide_eq_true c5
          clear c5
          replace H := Option.bind_eq_some_iff.mp H
          obtain ⟨t143, A60, H⟩ := H
          replace H : (if t143 = true then ((neonwrightref05_meets.f k1 (rd_L1 l0 x7_1) l2).bind fun t145 => (if t145 = true then (neonwrightref05_hidden.l0 k1 l0 a1 l2 (wrap64 (x7_1 + 1))) else (some false))) else (neonwrightref05_hidden.l0 k1 l0 a1 l2 (wrap64 (x7_1 + 1)))) = some r := H
          have A6 := Aside0.mk A60
          clear A60
          by_cases c7 : t143 = true
          · subst c7
            have H1 : ((neonwrightref05_meets.f k1 (rd_L1 l0 x7_1) l2).bind fun t145 => (if t145 = true then (neonwrightref05_hidden.l0 k1 l0 a1 l2 (wrap64 (x7_1 + 1))) else (some false))) = some r := by rw [if_pos rfl] at H; exact H
            clear H
            have H := H1
            clear H1
            replace H := Option.bind_eq_some_iff.mp H
            obtain ⟨t145, A80, H⟩ := H
            replace H : (if t145 = true then (neonwrightref05_hidden.l0 k1 l0 a1 l2 (wrap64 (x7_1 + 1))) else (some false)) = some r := H
            have A8 := Aside0.mk A80
            clear A80
            by_cases c9 : t145 = true
            · subst c9
              have H1 : (neonwrightref05_hidden.l0 k1 l0 a1 l2 (wrap64 (x7_1 + 1))) = some r := by rw [if_pos rfl] at H; exact H
              clear H
              have H := H1
              clear H1
              have H' := Aside0.mk H
              clear H
              have p142 : 0 ≤ (x7_1 : Int) := of_decide_eq_true (by first | (with_reducible assumption) | assumption)
              have q142 : x7_1 < (l0.length : Int) := of_decide_eq_true (by first | (with_reducible assumption) | assumption)
              obtain ⟨ad142, A142_0, c142_0, e142, hx142_0, hl142_0, hi142_0⟩ := at_L1 HR0.out x7_1 p142 q142
              cases e142
              have HR142_0 := Aside0.mk hi142_0
              have HC142_0 := Aside0.mk hl142_0
              clear hi142_0 hl142_0
              replace p142 := eq_true p142
              replace q142 := eq_true q142
              go_wp2_with (first | ((with_reducible refine gate_callee (f := 73) rfl ?_); refine goesL_ (some 19) rfl rfl Tryd.func73 (by kernel_rfl) rfl #[.slice A142_0 (rd_L1 l0 x7_1).length c142_0, .int .i64 a1] rfl (by (try simp only [List.map_toArray, List.map_cons, List.map_nil]); first | done | rfl | (simp only [List.length_drop, List.length_take]; rfl)) ?_; (with_reducible refine (neonwrightref05_has.calls k1 _ _ (rd_L1 l0 x7_1) a1 true _ ?side1 ?side2 A6.out).mono ?_); (case side1 => repeat (first | exact HR142_0.out | (with_reducible refine Kd.C_alloc ?_ _) | (with_reducible refine Kd.C_drewN ?_ _) | (with_reducible refine Kd.C_drew ?_))); (case side2 => exact HC142_0.out); rintro e w' ⟨rfl, ⟨nd, rfl⟩⟩; refine ⟨_, rfl, ?_⟩; have p144 : 0 ≤ (x7_1 : Int) := of_decide_eq_true (by first | (with_reducible assumption) | assumption); have q144 : x7_1 < (l0.length : Int) := of_decide_eq_true (by first | (with_reducible assumption) | assumption); obtain ⟨ad144, A144_0, c144_0, e144, hx144_0, hl144_0, hi144_0⟩ := at_L1 HR0.out x7_1 p144 q144; obtain rfl : ad142 = ad144 := (by injection e144); have HR144_0 := Aside0.mk hi144_0; have HC144_0 := Aside0.mk hl144_0; clear hi144_0 hl144_0; replace p144 := eq_true p144; replace q144 := eq_true q144; have ea_ := Option.some.inj (hx142_0.symm.trans hx144_0); injection ea_ with ea_ en_ ec_; subst ea_; subst ec_; clear en_) | (go_at_call 79; (with_reducible refine (neonwrightref05_meets.calls k1 _ _ (rd_L1 l0 x7_1) _ _ l2 true _ ?side1 ?side2 ?side3 ?side4 A8.out).mono ?_); (case side1 => repeat (first | exact HR144_0.out | (with_reducible refine Kd.C_alloc ?_ _) | (with_reducible refine Kd.C_drewN ?_ _) | (with_reducible refine Kd.C_drew ?_))); (case side2 => exact HC144_0.out); (case side3 => repeat (first | exact HR2.out | (with_reducible refine Kd.C_alloc ?_ _) | (with_reducible refine Kd.C_drewN ?_ _) | (with_reducible refine Kd.C_drew ?_))); (case side4 => exact HC2.out); rintro e w' ⟨rfl, ⟨nd, rfl⟩⟩))
              go_roundg k1
              case measure => have := HK1.out; omega
              case rel => exact ⟨(wrap64 (x7_1 + 1)), (by first | rfl | (simp; done) | (simp [*]; done)), H', ⟨by have := HK1.out; omega⟩, by repeat (first | exact Drawn0.refl _ | apply Drawn0.step)⟩
            · replace c9 := Bool.eq_false_iff.mpr c9
              subst c9
              have H1 : (some false) = some r := by rw [if_neg (show ¬ (false = true) by decide)] at H; exact H
              clear H
              have H := H1
              clear H1
              obtain rfl := Option.some.inj H
              have p142 : 0 ≤ (x7_1 : Int) := of_decide_eq_true (by first | (with_reducible assumption) | assumption)
              have q142 : x7_1 < (l0.length : Int) := of_decide_eq_true (by first | (with_reducible assumption) | assumption)
              obtain ⟨ad142, A142_0, c142_0, e142, hx142_0, hl142_0, hi142_0⟩ := at_L1 HR0.out x7_1 p142 q142
              cases e142
              have HR142_0 := Aside0.mk hi142_0
              have HC142_0 := Aside0.mk hl142_0
              clear hi142_0 hl142_0
              replace p142 := eq_true p142
              replace q142 := eq_true q142
              go_wp2_with (first | ((with_reducible refine gate_callee (f := 73) rfl ?_); refine goesL_ (some 19) rfl rfl Tryd.func73 (by kernel_rfl) rfl #[.slice A142_0 (rd_L1 l0 x7_1).length c142_0, .int .i64 a1] rfl (by (try simp only [List.map_toArray, List.map_cons, List.map_nil]); first | done | rfl | (simp only [List.length_drop, List.length_take]; rfl)) ?_; (with_reducible refine (neonwrightref05_has.calls k1 _ _ (rd_L1 l0 x7_1) a1 true _ ?side1 ?side2 A6.out).mono ?_); (case side1 => repeat (first | exact HR142_0.out | (with_reducible refine Kd.C_alloc ?_ _) | (with_reducible refine Kd.C_drewN ?_ _) | (with_reducible refine Kd.C_drew ?_))); (case side2 => exact HC142_0.out); rintro e w' ⟨rfl, ⟨nd, rfl⟩⟩; refine ⟨_, rfl, ?_⟩; have p144 : 0 ≤ (x7_1 : Int) := of_decide_eq_true (by first | (with_reducible assumption) | assumption); have q144 : x7_1 < (l0.length : Int) := of_decide_eq_true (by first | (with_reducible assumption) | assumption); obtain ⟨ad144, A144_0, c144_0, e144, hx144_0, hl144_0, hi144_0⟩ := at_L1 HR0.out x7_1 p144 q144; obtain rfl : ad142 = ad144 := (by injection e144); have HR144_0 := Aside0.mk hi144_0; have HC144_0 := Aside0.mk hl144_0; clear hi144_0 hl144_0; replace p144 := eq_true p144; replace q144 := eq_true q144; have ea_ := Option.some.inj (hx142_0.symm.trans hx144_0); injection ea_ with ea_ en_ ec_; subst ea_; subst ec_; clear en_) | (go_at_call 79; (with_reducible refine (neonwrightref05_meets.calls k1 _ _ (rd_L1 l0 x7_1) _ _ l2 false _ ?side1 ?side2 ?side3 ?side4 A8.out).mono ?_); (case side1 => repeat (first | exact HR144_0.out | (with_reducible refine Kd.C_alloc ?_ _) | (with_reducible refine Kd.C_drewN ?_ _) | (with_reducible refine Kd.C_drew ?_))); (case side2 => exact HC144_0.out); (case side3 => repeat (first | exact HR2.out | (with_reducible refine Kd.C_alloc ?_ _) | (with_reducible refine Kd.C_drewN ?_ _) | (with_reducible refine Kd.C_drew ?_))); (case side4 => exact HC2.out); rintro e w' ⟨rfl, ⟨nd, rfl⟩⟩))
              go_ret
              exact ⟨by first | rfl | (simp; done) | (simp [*]; done), by repeat (first | exact Drawn0.refl _ | apply Drawn0.step)⟩
          · replace c7 := Bool.eq_false_iff.mpr c7
            subst c7
            have H1 : (neonwrightref05_hidden.l0 k1 l0 a1 l2 (wrap64 (x7_1 + 1))) = some r := by rw [if_neg (show ¬ (false = true) by decide)] at H; exact H
            clear H
            have H := H1
            clear H1
            have H' := Aside0.mk H
            clear H
            have p142 : 0 ≤ (x7_1 : Int) := of_decide_eq_true (by first | (with_reducible assumption) | assumption)
            have q142 : x7_1 < (l0.length : Int) := of_decide_eq_true (by first | (with_reducible assumption) | assumption)
            obtain ⟨ad142, A142_0, c142_0, e142, hx142_0, hl142_0, hi142_0⟩ := at_L1 HR0.out x7_1 p142 q142
            cases e142
            have HR142_0 := Aside0.mk hi142_0
            have HC142_0 := Aside0.mk hl142_0
            clear hi142_0 hl142_0
            replace p142 := eq_true p142
            replace q142 := eq_true q142
            go_wp2_with (first | ((with_reducible refine gate_callee (f := 73) rfl ?_); refine goesL_ (some 19) rfl rfl Tryd.func73 (by kernel_rfl) rfl #[.slice A142_0 (rd_L1 l0 x7_1).length c142_0, .int .i64 a1] rfl (by (try simp only [List.map_toArray, List.map_cons, List.map_nil]); first | done | rfl | (simp only [List.length_drop, List.length_take]; rfl)) ?_; (with_reducible refine (neonwrightref05_has.calls k1 _ _ (rd_L1 l0 x7_1) a1 false _ ?side1 ?side2 A6.out).mono ?_); (case side1 => repeat (first | exact HR142_0.out | (with_reducible refine Kd.C_alloc ?_ _) | (with_reducible refine Kd.C_drewN ?_ _) | (with_reducible refine Kd.C_drew ?_))); (case side2 => exact HC142_0.out); rintro e w' ⟨rfl, ⟨nd, rfl⟩⟩; refine ⟨_, rfl, ?_⟩))
            go_roundg k1
            case measure => have := HK1.out; omega
            case rel => exact ⟨(wrap64 (x7_1 + 1)), (by first | rfl | (simp; done) | (simp [*]; done)), H', ⟨by have := HK1.out; omega⟩, by repeat (first | exact Drawn0.refl _ | apply Drawn0.step)⟩
        · rw [if_neg c5] at H
          exact absurd H (by simp)
      · rw [if_neg c4] at H
        have c4b0 : decide (x7_1 < (l0.length : Int)) = false := decide_eq_false c4
        clear c4
        obtain rfl := Option.some.inj H
        go_wp2
        go_ret
        exact ⟨by first | rfl | (simp; done) | (simp [*]; done), by repeat (first | exact Drawn0.refl _ | apply Drawn0.step)⟩

end Go.Proofs.YtglajokjiphafaaDoor.P
