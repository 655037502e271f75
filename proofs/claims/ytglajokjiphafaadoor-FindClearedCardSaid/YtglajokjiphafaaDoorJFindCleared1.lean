/- Several texts of this session in one file, in build order: DRows, DRowsB, DClrP, DOut, Isort, HSort, HCompact, Pf63, DClrA, DClr, Pf16, Pf55, Pf49, Pf73, Pf39. -/
import Derived.Test.YtglajokjiphafaaDoorJB1
import Derived.Deep.Matrix
import Derived.OpenShut
import Derived.ProofKit
import Derived.Deep.Grids
import Init.Data.List.Sort.Lemmas
import Derived.Deep.RegionHeld3
set_option linter.unusedSimpArgs false
set_option linter.unusedVariables false
namespace Go.Proofs.YtglajokjiphafaaDoor.P
open Go.Lib Go.RowKit Go.ChangeShapes Go.WideShapes Go.ChangeAt Go.Proofs.YtglajokjiphafaaDoorW.PrintWords Go.Proofs.YtglajokjiphafaaDoorW.PrintLast Go.Proofs.YtglajokjiphafaaDoorW.PrintMore

theorem C_scalar {k : IntKind} {w : World} {a : Addr} {zs : List Int} (hl : zs.length ≤ 9223372036854775807) (hc : ∀ i, (h : i < zs.length) → w.cell? (a.add i) = some (.int k zs[i])) : Kd.C (Kd.int k) w (some a) zs.length zs := by
  refine ⟨rfl, hl, fun _ => ⟨a, rfl, fun j p hp => ?_⟩⟩
  obtain ⟨hj, rfl⟩ := List.getElem?_eq_some_iff.1 hp
  refine ⟨[.int k zs[j]], rfl, rfl, fun i u hu => ?_⟩
  cases i with
  | zero =>
    have h1 : u = .int k zs[j] := by simpa using hu.symm
    subst h1
    have h2 : j * (Kd.int k).sz + 0 = j := by show j * 1 + 0 = j; omega
    rw [h2]
    exact hc j hj
  | succ i => simp at hu
theorem C_nil {α : Type} (d : Kd α) (w : World) (A : Option Addr) : Kd.C d w A ([] : List α).length [] := ⟨rfl, by simp, fun h => by simp at h⟩
theorem ints_open {H : Type} {enc : TypeId × Value → H} {w : World} {base : Nat} {held : Bool} {fuel : Nat} {A : Option Addr} {len cap : Nat} {x : DataW H × List MemPlace}
    (h : DataW.trod enc Tryd.prog w base (fun _ => true) held fuel 25 (Value.slice A len cap).cells.toList = some x) : ∃ z : List Int, z.length = len ∧ Kd.C (Kd.int .i64) w A len z ∧ len ≤ cap := by
  rcases open_ints Tryd.underlying25 Tryd.underlying3 (by kernel_rfl) h with ⟨hcs, _⟩ | ⟨a, l, c, zs, hcs, _, hl, hm, hz, _, hcell, hwz⟩
  · simp [Value.cells] at hcs
    obtain ⟨rfl, rfl, rfl⟩ := hcs
    exact ⟨[], rfl, C_nil _ _ _, Nat.le_refl _⟩
  · simp [Value.cells] at hcs
    obtain ⟨rfl, rfl, rfl⟩ := hcs
    have hzl : zs.length = cap := by simpa using hz
    have ht : (zs.take len).length = len := by rw [List.length_take]; omega
    refine ⟨zs.take len, ht, ?_, hl⟩
    have := C_scalar (k := .i64) (w := w) (a := a) (zs := zs.take len) (by rw [ht]; unfold maxLen at hm; omega) (fun i hi => by
      have h1 := hcell i (by rw [List.length_take] at hi; omega)
      rw [h1]
      rw [List.length_take] at hi
      simp [List.getD_eq_getElem?_getD, List.getElem?_eq_getElem (show i < zs.length by omega)])
    rw [ht] at this
    exact this
theorem rows_open {H : Type} {enc : TypeId × Value → H} {w : World} {base : Nat} {held : Bool} {fuel : Nat} {A : Option Addr} {len cap : Nat} {x : DataW H × List MemPlace}
    (h : DataW.trod enc Tryd.prog w base (fun _ => true) held fuel 22 (Value.slice A len cap).cells.toList = some x) : ∃ z : List (List Int), z.length = len ∧ Kd.C (Kd.slice 3 (Kd.int .i64)) w A len z ∧ len ≤ cap := by
  rcases Go.Deep.open_int_rows Tryd.underlying22 Tryd.underlying25 Tryd.underlying3 (by kernel_rfl) (by kernel_rfl) h with ⟨hcs, _⟩ | ⟨a, l, c, A1, L, C, Z, hcs, _, hl, hm, _, hr⟩
  · simp [Value.cells] at hcs
    obtain ⟨rfl, rfl, rfl⟩ := hcs
    exact ⟨[], rfl, C_nil _ _ _, Nat.le_refl _⟩
  · simp [Value.cells] at hcs
    obtain ⟨rfl, rfl, rfl⟩ := hcs
    refine ⟨(List.range len).map fun r => (Z r).take (L r), by simp, ⟨by simp, by unfold maxLen at hm; omega, fun _ => ⟨a, rfl, fun j p hp => ?_⟩⟩, hl⟩
    obtain ⟨hj, rfl⟩ := List.getElem?_eq_some_iff.1 hp
    have hj' : j < len := by simpa using hj
    obtain ⟨h1, h2, h3, h4, _, h6, h7⟩ := hr j (by omega)
    have ht : ((Z j).take (L j)).length = L j := by rw [List.length_take]; omega
    refine ⟨[.slice (A1 j) (L j) (C j)], rfl, ⟨A1 j, C j, by simp [ht], by simp [ht]; omega, ?_⟩, fun i u hu => ?_⟩
    · rw [List.getElem_map, List.getElem_range]
      cases hA : A1 j with
      | none =>
        have h0 := h6 hA
        have hz : (Z j).take (L j) = [] := List.length_eq_zero_iff.1 (by omega)
        rw [hz]
        exact C_nil _ _ _
      | some a' =>
        have h8 := (h7 a' hA).2
        exact C_scalar (by rw [ht]; unfold maxLen at h3; omega) (fun i hi => by
          rw [h8 i (by omega)]
          simp [List.getD_eq_getElem?_getD, List.getElem?_eq_getElem (show i < (Z j).length by omega)])
    · cases i with
      | zero =>
        have h9 : u = .slice (A1 j) (L j) (C j) := by simpa using hu.symm
        subst h9
        have h10 : j * (Kd.slice 3 (Kd.int .i64)).sz + 0 = j := by show j * 1 + 0 = j; omega
        rw [h10]
        exact h1
      | succ i => simp at hu
end Go.Proofs.YtglajokjiphafaaDoor.P

set_option linter.unusedSimpArgs false
set_option linter.unusedVariables false
namespace Go.Proofs.YtglajokjiphafaaDoor.P
open Go.Lib Go.RowKit Go.ChangeShapes Go.WideShapes Go.ChangeAt Go.Proofs.YtglajokjiphafaaDoorW.PrintWords Go.Proofs.YtglajokjiphafaaDoorW.PrintLast Go.Proofs.YtglajokjiphafaaDoorW.PrintMore

theorem bools_open {H : Type} {enc : TypeId × Value → H} {w : World} {base : Nat} {held : Bool} {fuel : Nat} {A : Option Addr} {len cap : Nat} {x : DataW H × List MemPlace}
    (h : DataW.trod enc Tryd.prog w base (fun _ => true) held fuel 40 (Value.slice A len cap).cells.toList = some x) : ∃ z : List Bool, z.length = len ∧ Kd.C Kd.bool w A len z ∧ len ≤ cap := by
  rcases Go.Deep.open_bools Tryd.underlying40 Tryd.underlying4 (by kernel_rfl) h with ⟨hcs, _⟩ | ⟨a, l, c, B, hcs, _, hl, hm, _, hcell⟩
  · simp [Value.cells] at hcs
    obtain ⟨rfl, rfl, rfl⟩ := hcs
    exact ⟨[], rfl, C_nil _ _ _, Nat.le_refl _⟩
  · simp [Value.cells] at hcs
    obtain ⟨rfl, rfl, rfl⟩ := hcs
    refine ⟨(List.range len).map B, by simp, ⟨by simp, by unfold maxLen at hm; omega, fun _ => ⟨a, rfl, fun j p hp => ?_⟩⟩, hl⟩
    obtain ⟨hj, rfl⟩ := List.getElem?_eq_some_iff.1 hp
    have hj' : j < len := by simpa using hj
    refine ⟨[.bool (((List.range len).map B)[j])], rfl, rfl, fun i u hu => ?_⟩
    cases i with
    | zero =>
      have h1 : u = .bool (((List.range len).map B)[j]) := by simpa using hu.symm
      subst h1
      have h2 : j * Kd.bool.sz + 0 = j := by show j * 1 + 0 = j; omega
      rw [h2, hcell j (by omega)]
      simp
    | succ i => simp at hu
end Go.Proofs.YtglajokjiphafaaDoor.P

set_option linter.unusedSimpArgs false
set_option linter.unusedVariables false
namespace Go.Proofs.YtglajokjiphafaaDoor.P
open Go.Lib Go.RowKit Go.Proofs.YtglajokjiphafaaDoorW.PrintWords Go.Proofs.YtglajokjiphafaaDoorW.PrintLast Go.Proofs.YtglajokjiphafaaDoorW.PrintMore Go.Proofs.YtglajokjiphafaaDoor.Kit

/-- The outcomes of the tests. -/
def outB (d : List (List Int)) (f : List Int) : List Bool := d.map fun r => f.any fun x => r.contains x
theorem outB_length (d : List (List Int)) (f : List Int) : (outB d f).length = d.length := by simp [outB]
/-- Outcomes as bits. -/
def toldN : List Bool → Nat
  | [] => 0
  | b :: l => (if b = true then 1 else 0) + 2 * toldN l
theorem testBit_told : ∀ (l : List Bool) (i : Nat), (toldN l).testBit i = l.getD i false
  | [], i => by simp [toldN]
  | b :: l, 0 => by
    simp only [toldN, List.getD_cons_zero]
    rw [Nat.testBit_zero]
    cases b <;> simp <;> omega
  | b :: l, i + 1 => by
    simp only [toldN, List.getD_cons_succ]
    rw [← testBit_told l i, Nat.testBit_succ]
    congr 1
    split <;> omega
theorem toldN_lt : ∀ l : List Bool, toldN l < 2 ^ l.length
  | [] => Nat.zero_lt_one
  | b :: l => by
    have := toldN_lt l
    simp only [toldN, List.length_cons, Nat.pow_succ]
    split <;> omega
theorem toldN_lt64 {l : List Bool} (h : l.length ≤ 64) : toldN l < 18446744073709551616 := by
  have h1 := toldN_lt l
  have h2 : 2 ^ l.length ≤ 2 ^ 64 := Nat.pow_le_pow_right (by decide) h
  have h3 : (2 : Nat) ^ 64 = 18446744073709551616 := rfl
  omega
theorem toldN_snoc (l : List Bool) (b : Bool) : toldN (l ++ [b]) = toldN l ||| (if b = true then 2 ^ l.length else 0) := by
  refine Nat.eq_of_testBit_eq fun i => ?_
  rw [Nat.testBit_or, testBit_told, testBit_told]
  have hq : ∀ _ : i ≠ l.length, (if b = true then 2 ^ l.length else 0).testBit i = false := by
    intro h
    split
    · rw [Nat.testBit_two_pow]; simp; omega
    · simp
  rcases Nat.lt_trichotomy i l.length with h | h | h
  · rw [show (l ++ [b]).getD i false = l.getD i false by simp [List.getD_eq_getElem?_getD, List.getElem?_append_left h], hq (by omega), Bool.or_false]
  · subst h
    rw [show (l ++ [b]).getD l.length false = b by simp [List.getD_eq_getElem?_getD], show l.getD l.length false = false by simp [List.getD_eq_getElem?_getD]]
    cases b <;> simp [Nat.testBit_two_pow]
  · rw [hq (by omega), Bool.or_false]
    simp only [List.getD_eq_getElem?_getD]
    rw [List.getElem?_eq_none (by simp; omega), List.getElem?_eq_none (by omega)]
theorem darkN_told (d : List (List Int)) (f : List Int) : darkN d f = toldN (outB d f) := by
  refine Nat.eq_of_testBit_eq fun i => ?_
  rw [testBit_darkN, testBit_told]
  unfold outB
  by_cases h : i < d.length
  · simp [List.getD_eq_getElem?_getD, h]
  · simp [List.getD_eq_getElem?_getD, List.getElem?_eq_none (show d.length ≤ i by omega)]
theorem toldN_inj {a b : List Bool} (hl : a.length = b.length) (h : toldN a = toldN b) : a = b := by
  refine List.ext_getElem hl fun i h1 h2 => ?_
  have := testBit_told a i
  rw [h, testBit_told] at this
  simp only [List.getD_eq_getElem?_getD, List.getElem?_eq_getElem h1, List.getElem?_eq_getElem h2, Option.getD_some] at this
  exact this.symm
theorem dark_same (d : List (List Int)) (f : List Int) (o : List Bool) (hl : o.length = d.length) : decide (darkN d f = toldN o) = decide (outB d f = o) := by
  rw [darkN_told]
  by_cases h : outB d f = o
  · simp [h]
  · rw [decide_eq_false h, decide_eq_false (fun e => h (toldN_inj (by rw [outB_length, hl]) e))]
/-- Is a tube in a test that is not dark? -/
def clB (d : List (List Int)) (o : List Bool) (t : Int) : Bool := (d.zip o).any fun p => p.1.contains t && !p.2
theorem clB_iff (d : List (List Int)) (o : List Bool) (hl : o.length = d.length) (t : Int) : clB d o t = true ↔ andn (fam t d) (toldN o) ≠ 0 := by
  unfold clB
  rw [List.any_eq_true]
  constructor
  · rintro ⟨⟨r, b⟩, hp, hc⟩
    obtain ⟨i, hi, e⟩ := List.mem_iff_getElem.1 hp
    intro h0
    have h1 : (andn (fam t d) (toldN o)).testBit i = false := by rw [h0, Nat.zero_testBit]
    rw [List.length_zip] at hi
    rw [List.getElem_zip] at e
    injection e with e1 e2
    subst e1 e2
    rw [testBit_andn, testBit_fam, testBit_told] at h1
    simp only [List.getD_eq_getElem?_getD, List.getElem?_eq_getElem (show i < d.length by omega), List.getElem?_eq_getElem (show i < o.length by omega), Option.getD_some] at h1
    rw [h1] at hc
    cases hc
  · intro h
    obtain ⟨i, hi⟩ := Nat.exists_testBit_of_ne_zero h
    rw [testBit_andn, testBit_fam, testBit_told] at hi
    by_cases hlt : i < d.length
    · simp only [List.getD_eq_getElem?_getD, List.getElem?_eq_getElem hlt, List.getElem?_eq_getElem (show i < o.length by omega), Option.getD_some] at hi
      exact ⟨(d[i], o[i]), List.mem_iff_getElem.2 ⟨i, by rw [List.length_zip]; omega, by rw [List.getElem_zip]⟩, hi⟩
    · simp [List.getD_eq_getElem?_getD, List.getElem?_eq_none (show d.length ≤ i by omega)] at hi
/-- The tubes that are cleared. -/
def clL (n : Nat) (d : List (List Int)) (o : List Bool) : List Int := ((List.range n).map fun (t : Nat) => (t : Int)).filter (clB d o)
theorem mem_clL (n : Nat) (d : List (List Int)) (o : List Bool) (t : Int) : t ∈ clL n d o ↔ (0 ≤ t ∧ t < (n : Int)) ∧ clB d o t = true := by
  unfold clL
  rw [List.mem_filter, List.mem_map]
  constructor
  · rintro ⟨⟨j, hj, rfl⟩, h⟩
    rw [List.mem_range] at hj
    exact ⟨by omega, h⟩
  · rintro ⟨⟨h0, h1⟩, h⟩
    exact ⟨⟨t.toNat, List.mem_range.2 (by omega), by omega⟩, h⟩
/-- Those of a test that are not cleared. -/
def leftL (c r : List Int) : List Int := r.filter fun t => !c.contains t
def aloneF (c : List Int) (p : List Int × Bool) : Option Int := if p.2 = true ∧ (leftL c p.1).length = 1 then some ((leftL c p.1).getD 0 0) else none
def aloneL (d : List (List Int)) (o : List Bool) (c : List Int) : List Int := (d.zip o).filterMap (aloneF c)
theorem aloneF_iff (c r : List Int) (b : Bool) (x : Int) (hr : r.Pairwise (· < ·)) : aloneF c (r, b) = some x ↔ b = true ∧ r.contains x = true ∧ c.contains x = false ∧ ∀ y ∈ r, c.contains y = false → y = x := by
  unfold aloneF
  have hm : ∀ y, y ∈ leftL c r ↔ y ∈ r ∧ c.contains y = false := fun y => by unfold leftL; rw [List.mem_filter]; simp
  have hnd : (leftL c r).Nodup := (hr.imp (fun {a b} h e => by omega)).filter _
  constructor
  · intro h
    split at h
    case isFalse => cases h
    rename_i hc
    obtain ⟨y, hy⟩ := List.length_eq_one_iff.1 hc.2
    have hy' : leftL c r = [y] := hy
    injection h with h
    rw [show leftL c (r, b).1 = [y] from hy'] at h
    have e : y = x := h
    subst e
    have := (hm y).1 (by rw [hy']; exact List.mem_singleton.2 rfl)
    refine ⟨hc.1, by simpa using this.1, this.2, fun z hz hcz => ?_⟩
    have := (hm z).2 ⟨hz, hcz⟩
    rw [hy'] at this
    exact List.mem_singleton.1 this
  · rintro ⟨rfl, h1, h2, h3⟩
    have e : leftL c r = [x] := by
      refine List.Perm.eq_singleton ((List.perm_ext_iff_of_nodup hnd (List.pairwise_singleton _ _)).2 fun y => ?_)
      rw [hm, List.mem_singleton]
      constructor
      · exact fun h => h3 y h.1 h.2
      · rintro rfl; exact ⟨by simpa using h1, h2⟩
    show (if true = true ∧ (leftL c r).length = 1 then some ((leftL c r).getD 0 0) else none) = some x
    rw [e]
    rfl
/-- The tubes that are alone in a test that is dark. -/
def alB (d : List (List Int)) (o : List Bool) (c : List Int) (t : Int) : Bool := !c.contains t && (d.zip o).any fun p => p.2 && (p.1.contains t && (p.1.filter fun y => y != t && !c.contains y).length == 0)
theorem alB_iff (d : List (List Int)) (o : List Bool) (c : List Int) (t : Int) (hr : ∀ r ∈ d, r.Pairwise (· < ·)) : alB d o c t = true ↔ t ∈ aloneL d o c := by
  unfold alB aloneL
  rw [List.mem_filterMap]
  simp only [Bool.and_eq_true, Bool.not_eq_true', List.any_eq_true, beq_iff_eq]
  constructor
  · rintro ⟨h1, ⟨r, b⟩, hp, h2, h3, h4⟩
    refine ⟨(r, b), hp, (aloneF_iff c r b t (hr r (List.of_mem_zip hp).1)).2 ⟨h2, h3, h1, fun y hy hc => ?_⟩⟩
    have := List.length_eq_zero_iff.1 h4
    have h5 := List.filter_eq_nil_iff.1 this y hy
    by_cases e : y = t
    · exact e
    · exact absurd (by simp [e]; simpa using hc) h5
  · rintro ⟨⟨r, b⟩, hp, h⟩
    obtain ⟨h1, h2, h3, h4⟩ := (aloneF_iff c r b t (hr r (List.of_mem_zip hp).1)).1 h
    refine ⟨h3, (r, b), hp, h1, h2, ?_⟩
    rw [List.length_eq_zero_iff, List.filter_eq_nil_iff]
    intro y hy h5
    simp only [Bool.and_eq_true, bne_iff_ne, Bool.not_eq_true'] at h5
    exact h5.1 (h4 y hy h5.2)
theorem asc_uniq {a b : List Int} (ha : a.Pairwise (· < ·)) (hb : b.Pairwise (· < ·)) (h : ∀ x, x ∈ a ↔ x ∈ b) : a = b := by
  refine List.Perm.eq_of_pairwise (le := fun x y => x < y) (fun x y _ _ h1 h2 => by omega) ha hb ((List.perm_ext_iff_of_nodup (ha.imp (fun {x y} h e => by omega)) (hb.imp (fun {x y} h e => by omega))).2 h)
def alL (n : Nat) (d : List (List Int)) (o : List Bool) (c : List Int) : List Int := ((List.range n).map fun (t : Nat) => (t : Int)).filter (alB d o c)
theorem range_asc (n : Nat) : ((List.range n).map fun (t : Nat) => (t : Int)).Pairwise (· < ·) := by
  rw [List.pairwise_map]
  exact List.pairwise_lt_range.imp (fun {a b} h => by omega)
theorem mem_alL (n : Nat) (d : List (List Int)) (o : List Bool) (c : List Int) (hr : ∀ r ∈ d, r.Pairwise (· < ·)) (hi : ∀ r ∈ d, ∀ x ∈ r, 0 ≤ x ∧ x < (n : Int)) (t : Int) : t ∈ alL n d o c ↔ t ∈ aloneL d o c := by
  unfold alL
  rw [List.mem_filter, alB_iff d o c t hr]
  constructor
  · exact fun h => h.2
  · intro h
    refine ⟨?_, h⟩
    unfold aloneL at h
    rw [List.mem_filterMap] at h
    obtain ⟨⟨r, b⟩, hp, h⟩ := h
    have hm := (List.of_mem_zip hp).1
    obtain ⟨h1, h2, h3, h4⟩ := (aloneF_iff c r b t (hr r hm)).1 h
    have h5 := hi r hm t (by simpa using h2)
    exact List.mem_map.2 ⟨t.toNat, List.mem_range.2 (by omega), by omega⟩
end Go.Proofs.YtglajokjiphafaaDoor.P

set_option linter.unusedSimpArgs false
set_option linter.unusedVariables false
namespace Go.Proofs.YtglajokjiphafaaDoor.P
open Go.Lib Go.RowKit Go.Proofs.YtglajokjiphafaaDoorW.PrintWords Go.Proofs.YtglajokjiphafaaDoorW.PrintLast Go.Proofs.YtglajokjiphafaaDoorW.PrintMore Go.Proofs.YtglajokjiphafaaDoor.Kit
attribute [local go_sem] max2_int min2_int max_two min_two max_three min_three max_four min_four

def outP (n : Int) (d : List (List Int)) (f : List Int) : List Bool × Int := if ofN n d = 0 then (if risB n f = true then (outB d f, 0) else ([], 2)) else ([], ofN n d)
theorem andu_bit (x i : Nat) (hx : x < 18446744073709551616) (hi : i ≤ 63) : (Go.bits .and .u64 (x : Int) (shl .u64 1 (i : Int)) != 0) = x.testBit i := by
  have e : x &&& 2 ^ i = if x.testBit i = true then 2 ^ i else 0 := by
    refine Nat.eq_of_testBit_eq fun j => ?_
    rw [Nat.testBit_and, Nat.testBit_two_pow]
    by_cases h : i = j
    · subst h
      cases x.testBit i <;> simp
    · cases x.testBit i <;> simp [h]
  have h0 : (2 : Nat) ^ i ≠ 0 := by have := Nat.two_pow_pos i; omega
  rw [shlu hi, andu _ _ hx (pow_lt64 hi), e]
  cases x.testBit i with
  | false => rfl
  | true =>
    rw [if_pos rfl]
    exact bne_iff_ne.2 (by omega)
theorem out_bit (d : List (List Int)) (hd : d.length ≤ 60) (f : List Int) (i : Nat) (hi : i < d.length) : (Go.bits .and .u64 (darkN d f : Int) (shl .u64 1 (i : Int)) != 0) = (outB d f).getD i false := by
  rw [andu_bit _ _ (darkN_lt64 (by omega) _) (by omega), darkN_told, testBit_told]
theorem rdB_get (l : List Bool) (i : Nat) (h : i < l.length) : rdOf false l (i : Int) = l[i] := by unfold rdOf; simp [List.getD_eq_getElem?_getD, h]
theorem shl_form (i : Nat) : shl .u64 1 (i : Int) = IntKind.u64.wrap (2 ^ min i 64) := by
  unfold shl
  rw [show IntKind.u64.bits = 64 from rfl, Int.toNat_natCast, Int.one_mul]
def OutPost (n : Int) (ls : List (List Int)) (f : List Int) (w : World) (e : Ending) (w' : World) : Prop :=
  ∃ v0_ : Value, e = .returned (.tuple #[v0_, .int .i64 (outP n ls f).2]) ∧ Kd.R Kd.bool 4 w' w.heap.size (fun _ => True) v0_ (outP n ls f).1 ∧ Below w.heap.size w w'
set_option maxHeartbeats 4000000
set_option maxRecDepth 100000
theorem out_no (n : Int) (A1 : Option Addr) (c1 : Nat) (ls : List (List Int)) (A2 : Option Addr) (c2 : Nat) (f : List Int) (w : World) (hr1 : Kd.C (Kd.slice 3 (Kd.int .i64)) w A1 ls.length ls) (hr2 : Kd.C (Kd.int .i64) w A2 f.length f) (hc2 : f.length ≤ c2) (h : ofN n ls ≠ 0 ∨ risB n f = false) :
    Calls Tryd.prog 25 #[.int .i64 n, .slice A1 ls.length c1, .slice A2 f.length c2] w (OutPost n ls f w) := by
  by_cases h0 : ofN n ls = 0
  · have hD : risB n f = false := by rcases h with h | h; exact absurd h0 h; exact h
    have HP := Aside0.mk (show outP n ls f = ([], 2) by unfold outP; rw [if_pos h0, if_neg (by rw [hD]; decide)])
    have HF := Aside0.mk (show find_rising.f (f.length + 1) f n = some false by rw [rising_f n f hr2.2.1 (f.length + 1) (by omega), hD])
    have HO := Aside0.mk (of_ok n A1 c1 ls w hr1 h0)
    have HR2 := Aside0.mk hr2
    have HC2 := Aside0.mk hc2
    clear h h0 hD hr1 hr2 hc2
    go_enter Tryd.func25, Tryd.ntmps25
    go_wp2_with (first | (go_at_call 42; (with_reducible refine (HO.out).mono ?_); rintro e w1 ⟨g, rfl, hI, hb⟩; have HB := Aside0.mk hb; clear hI hb) | (go_at_call 54; (refine (find_rising.calls (f.length + 1) A2 c2 f n false _ (by repeat (first | exact (Kd.C_below HR2.out HB.out) | (with_reducible refine Kd.C_alloc ?_ _) | (with_reducible refine Kd.C_drewN ?_ _) | (with_reducible refine Kd.C_drew ?_))) HC2.out HF.out).mono ?_); rintro e w' ⟨rfl, ⟨nd, rfl⟩⟩))
    go_ret2
    exact ⟨_, by rw [HP.out]; rfl, by rw [HP.out]; exact Kd.R_nil _ _ _ _ _, by repeat (first | exact HB.out | apply pw_below_drewN | apply below_drew1)⟩
  · have e0 : (ofN n ls != 0) = true := by simpa using h0
    have e1 : (ofN n ls == 0) = false := by simpa using h0
    have HP := Aside0.mk (show outP n ls f = ([], ofN n ls) by unfold outP; rw [if_neg h0])
    have HO := Aside0.mk (of_no n A1 c1 ls _ w hr1 rfl h0)
    clear h h0 hr1 hr2 hc2
    go_enter Tryd.func25, Tryd.ntmps25
    go_wp2_with (first | (go_at_call 42; (with_reducible refine (HO.out).mono ?_); rintro e w1 ⟨rfl, hb⟩; have HB := Aside0.mk hb; clear hb))
    go_ret2
    exact ⟨_, by rw [HP.out]; rfl, by rw [HP.out]; exact Kd.R_nil _ _ _ _ _, by repeat (first | exact HB.out | apply pw_below_drewN | apply below_drew1)⟩
theorem out_yes (n : Nat) (A1 : Option Addr) (c1 : Nat) (ls : List (List Int)) (A2 : Option Addr) (c2 : Nat) (f : List Int) (w : World) (hr1 : Kd.C (Kd.slice 3 (Kd.int .i64)) w A1 ls.length ls) (hr2 : Kd.C (Kd.int .i64) w A2 f.length f) (hc2 : f.length ≤ c2) (h0 : ofN (n : Int) ls = 0) (hf : risB (n : Int) f = true) :
    Calls Tryd.prog 25 #[.int .i64 (n : Int), .slice A1 ls.length c1, .slice A2 f.length c2] w (OutPost (n : Int) ls f w) := by
  have hn := (ofN_ok h0).1
  have hd := (ofN_ok h0).2.1
  have hn100 : n ≤ 100 := by omega
  have HD := Aside0.mk hd
  have HP := Aside0.mk (show outP (n : Int) ls f = (outB ls f, 0) by unfold outP; rw [if_pos h0, if_pos hf])
  have hfl : f.length ≤ 100 := by have := ris_length hf (by omega); omega
  have HF := Aside0.mk (show find_rising.f (f.length + 1) f (n : Int) = some true by rw [rising_f (n : Int) f hr2.2.1 (f.length + 1) (by omega), hf])
  have HDk := Aside0.mk (dark_f n ls hd f (ris_mem hf) (by omega) (f.length + 1) (by omega))
  have HO := Aside0.mk (of_ok (n : Int) A1 c1 ls w hr1 h0)
  have HCe := Aside0.mk (cols_ev n hn100 ls hd (ofN_rows h0) (ofN_lens h0)).rounds
  obtain ⟨k, hk⟩ := HCe.out
  have HK := Aside0.mk hk
  have HR2 := Aside0.mk hr2
  have HC2 := Aside0.mk hc2
  clear h0 hf hr1 hr2 hc2 hn hd hn100 hfl HCe hk
  go_enter Tryd.func25, Tryd.ntmps25
  go_wp2_with (first | (go_at_call 42; (with_reducible refine (HO.out).mono ?_); rintro e w1 ⟨g, rfl, hI, hb⟩; have HB := Aside0.mk hb; have HI := Aside0.mk hI; clear hI hb) | (go_at_call 54; (refine (find_rising.calls (f.length + 1) A2 c2 f (n : Int) true _ (by repeat (first | exact (Kd.C_below HR2.out HB.out) | (with_reducible refine Kd.C_alloc ?_ _) | (with_reducible refine Kd.C_drewN ?_ _) | (with_reducible refine Kd.C_drew ?_))) HC2.out HF.out).mono ?_); rintro e w' ⟨rfl, ⟨nd, rfl⟩⟩) | (go_at_call 44; (refine (find_design_columns.calls k g (n : Int) ls (colsOf n ls) (n : Int) w _ (by first | exact HI.out | exact HI.out.drewN _) (by first | exact HB.out | exact pw_below_drewN HB.out _) HK.out).mono ?_); rintro e w2 ⟨v0, rfl, hR2, _, hb2, _⟩; obtain ⟨A3, c3, rfl, hc3, hW3⟩ := Kd.R_reads hR2; have HW3 := Aside0.mk hW3; have HC3 := Aside0.mk hc3; have HB2 := Aside0.mk hb2; clear hW3 hb2 hR2 hc3) | (go_at_call 48; (refine (find_dark.calls (f.length + 1) _ _ (colsOf n ls) _ _ f _ _ (by repeat (first | exact HW3.out | (with_reducible refine Kd.C_alloc ?_ _) | (with_reducible refine Kd.C_drewN ?_ _) | (with_reducible refine Kd.C_drew ?_))) HC3.out (by repeat (first | exact (Kd.C_below HR2.out HB2.out) | (with_reducible refine Kd.C_alloc ?_ _) | (with_reducible refine Kd.C_drewN ?_ _) | (with_reducible refine Kd.C_drew ?_))) HC2.out HDk.out).mono ?_); rintro e w' ⟨rfl, ⟨nd2, rfl⟩⟩))
  go_loopw [11, 32] (fun v11 v32 w' => ∃ i : Nat, v32 = .int .i64 (i : Int) ∧ Aside0 (i ≤ ls.length) ∧ Aside0 (Kd.R Kd.bool 4 w' w.heap.size (fun _ => True) v11 ((outB ls f).take i)) ∧ Aside0 (Below w.heap.size w w')) (fun _ v _ => ls.length - (intOf v).toNat)
  case atStart => exact ⟨0, rfl, ⟨Nat.zero_le _⟩, ⟨Kd.R_nil _ _ _ _ _⟩, ⟨by repeat (first | exact HB2.out | apply pw_below_drewN | apply below_drew1)⟩⟩
  case round =>
    clear HB2 HB HI HW3
    obtain ⟨i, rfl, Hi, HR, HB⟩ := hrel
    by_cases ct : (i : Int) < (ls.length : Int)
    · have c1b : decide ((i : Int) < (ls.length : Int)) = true := decide_eq_true ct
      have c1c : decide (i < ls.length) = true := decide_eq_true (by omega)
      have c1d : decide (0 ≤ (i : Int)) = true := decide_eq_true (by omega)
      have hlt : i < ls.length := by omega
      have Hct := Aside0.mk hlt
      have hbit := out_bit ls HD.out f i hlt
      rw [shl_form] at hbit
      have htk : (outB ls f).take i ++ [(outB ls f).getD i false] = (outB ls f).take (i + 1) := by
        have h2 : i < (outB ls f).length := by rw [outB_length]; exact hlt
        rw [List.take_succ_eq_append_getElem h2]
        simp [List.getD_eq_getElem?_getD, h2]
      have HTK := Aside0.mk htk
      have HBit := Aside0.mk hbit
      have hlen : ((outB ls f).take i).length < 140737488355328 := by rw [List.length_take]; have := HD.out; omega
      have HLen := Aside0.mk hlen
      clear ct hlt htk hlen hbit
      go_wp2_with (first | ((with_reducible refine gate_builtin (b := .append) (xs := #[.tmp 35, .tmp 41]) rfl ?_); at_builtin; (try rw [HBit.out]); refine Kd.R_append Kd.bool (w0 := w) w.heap.size rfl (.tmp 35) (.tmp 41) 40 4 (.bool false) 1 rfl Tryd.underlying40 info4 rfl (by decide) (by omega) _ ((outB ls f).take i) ((outB ls f).getD i false) [.bool ((outB ls f).getD i false)] (fun _ => True) (fun _ => False) rfl rfl ?aP (fun _ hk => hk.elim) ?aF ?aO ?aB ?aS ?aL ?_; (case aP => exact rfl); (case aB => exact (by repeat (first | (with_reducible first | exact HB.out | apply below_alloc | apply pw_below_drewN | apply below_drew1) | exact HB.out))); (case aF => exact (fun _ _ => trivial)); (case aO => exact (by (with_reducible repeat (first | apply Kd.R_alloc | apply Kd.R_drewN | apply Kd.R_drew)); exact HR.out)); (case aS => exact (below_size (by repeat (first | (with_reducible first | exact HB.out | apply below_alloc | apply pw_below_drewN | apply below_drew1) | exact HB.out)))); (case aL => have := HLen.out; omega); intro v243 w7 ho hb hg hat; rw [HTK.out] at ho; have n0_ := Aside0.mk (hb); have n1_ := Aside0.mk (ho); clear HB; clear HR; have HB := n0_; have HR := n1_; clear n0_ n1_; clear ho hb hg hat))
      go_roundw
      case rel => exact ⟨i + 1, by rw [wrap1 (by have := Hct.out; have := HD.out; omega)], ⟨by have := Hct.out; omega⟩, HR, HB⟩
      case measure => rw [wrap1 (by have := Hct.out; have := HD.out; omega)]; have := Hct.out; simp [intOf]; omega
    · have c1b : decide ((i : Int) < (ls.length : Int)) = false := decide_eq_false ct
      have c1c : decide (i < ls.length) = false := decide_eq_false (by omega)
      have he : (outB ls f).take i = outB ls f := List.take_of_length_le (by rw [outB_length]; omega)
      have HE := Aside0.mk he
      clear ct he
      go_wp2
      go_ret2
      exact ⟨_, by rw [HP.out]; rfl, by rw [HP.out, ← HE.out]; exact HR.out, HB.out⟩
/-- find.Outcomes, told as the printed contracts are. -/
def find_Outcomes.f (a0 : Int) (l1 : List (List Int)) (l2 : List Int) : Option (List Bool × Int) := some (outP a0 l1 l2)
theorem find_Outcomes.calls (a0 : Int) (A1 : Option Addr) (c1 : Nat) (l1 : List (List Int)) (A2 : Option Addr) (c2 : Nat) (l2 : List Int) (r1 : List Bool) (r2 : Int) (w : World) (hr1 : Kd.C (Kd.slice 3 (Kd.int .i64)) w A1 l1.length l1) (hc1 : l1.length ≤ c1) (hr2 : Kd.C (Kd.int .i64) w A2 l2.length l2) (hc2 : l2.length ≤ c2) (h : find_Outcomes.f a0 l1 l2 = some (r1, r2)) :
    Calls Tryd.prog 25 #[.int .i64 a0, .slice A1 l1.length c1, .slice A2 l2.length c2] w fun e w' => ∃ v0_ : Value, e = .returned (.tuple #[v0_, .int .i64 r2]) ∧ Kd.R Kd.bool 4 w' w.heap.size (fun _ => True) v0_ r1 ∧ Below w.heap.size w w' := by
  have hp : outP a0 l1 l2 = (r1, r2) := by injection h
  have key : Calls Tryd.prog 25 #[.int .i64 a0, .slice A1 l1.length c1, .slice A2 l2.length c2] w (OutPost a0 l1 l2 w) := by
    by_cases h1 : ofN a0 l1 = 0
    · cases h2 : risB a0 l2 with
      | true =>
        obtain ⟨n, rfl⟩ := Int.eq_ofNat_of_zero_le (show 0 ≤ a0 by have := (ofN_ok h1).1; omega)
        exact out_yes n A1 c1 l1 A2 c2 l2 w hr1 hr2 hc2 h1 h2
      | false => exact out_no a0 A1 c1 l1 A2 c2 l2 w hr1 hr2 hc2 (.inr h2)
    · exact out_no a0 A1 c1 l1 A2 c2 l2 w hr1 hr2 hc2 (.inl h1)
  refine key.mono ?_
  rintro e w' ⟨v, he, h1, h2⟩
  rw [hp] at he h1
  exact ⟨v, he, h1, h2⟩
end Go.Proofs.YtglajokjiphafaaDoor.P

set_option linter.unusedSimpArgs false
set_option linter.unusedVariables false
namespace Go.Proofs.YtglajokjiphafaaDoor.Kit

def ins (x : Int) : List Int → List Int
  | [] => [x]
  | y :: ys => if x ≤ y then x :: y :: ys else y :: ins x ys
def isort : List Int → List Int
  | [] => []
  | x :: xs => ins x (isort xs)
theorem ins_perm (x : Int) (l : List Int) : (ins x l).Perm (x :: l) := by
  induction l with
  | nil => exact List.Perm.refl _
  | cons y ys ih =>
    unfold ins
    split
    · exact List.Perm.refl _
    · exact (List.Perm.cons y ih).trans (List.Perm.swap x y ys)
theorem isort_perm (l : List Int) : (isort l).Perm l := by
  induction l with
  | nil => exact List.Perm.refl _
  | cons x xs ih => exact (ins_perm x (isort xs)).trans (List.Perm.cons x ih)
theorem isort_length (l : List Int) : (isort l).length = l.length := (isort_perm l).length_eq
theorem mem_isort {x : Int} {l : List Int} : x ∈ isort l ↔ x ∈ l := (isort_perm l).mem_iff
theorem ins_sorted (x : Int) (l : List Int) (h : l.Pairwise (· ≤ ·)) : (ins x l).Pairwise (· ≤ ·) := by
  induction l with
  | nil => simp [ins]
  | cons y ys ih =>
    unfold ins
    rw [List.pairwise_cons] at h
    split
    · rename_i hxy
      refine List.pairwise_cons.2 ⟨fun z hz => ?_, List.pairwise_cons.2 h⟩
      rcases List.mem_cons.1 hz with rfl | hz
      · exact hxy
      · have := h.1 z hz
        omega
    · refine List.pairwise_cons.2 ⟨fun z hz => ?_, ih h.2⟩
      rcases List.mem_cons.1 ((ins_perm x ys).mem_iff.1 hz) with rfl | hz
      · omega
      · exact h.1 z hz
theorem isort_sorted (l : List Int) : (isort l).Pairwise (· ≤ ·) := by
  induction l with
  | nil => exact List.Pairwise.nil
  | cons x xs ih => exact ins_sorted x _ ih
/-- Two sorted lists of the same numbers are one. -/
theorem sorted_uniq : ∀ {a b : List Int}, a.Perm b → a.Pairwise (· ≤ ·) → b.Pairwise (· ≤ ·) → a = b := by
  intro a
  induction a with
  | nil => intro b h _ _; exact h.nil_eq
  | cons x xs ih =>
    intro b h ha hb
    cases b with
    | nil => exact absurd h.length_eq (by simp)
    | cons y ys =>
      rw [List.pairwise_cons] at ha hb
      have hxy : x = y := by
        have h1 : x ∈ y :: ys := h.mem_iff.1 List.mem_cons_self
        have h2 : y ∈ x :: xs := h.mem_iff.2 List.mem_cons_self
        rcases List.mem_cons.1 h1 with h1 | h1
        · exact h1
        · rcases List.mem_cons.1 h2 with h2 | h2
          · exact h2.symm
          · have := ha.1 y h2
            have := hb.1 x h1
            omega
      subst hxy
      rw [ih (List.Perm.cons_inv h) ha.2 hb.2]
theorem isort_of_sorted {l : List Int} (h : l.Pairwise (· ≤ ·)) : isort l = l := sorted_uniq (isort_perm l) (isort_sorted l) h
theorem mergeSort_isort (l : List Int) : (l.mergeSort fun x y => decide (x ≤ y)) = isort l := by
  refine sorted_uniq ((List.mergeSort_perm l _).trans (isort_perm l).symm) ?_ (isort_sorted l)
  have h := List.pairwise_mergeSort (le := fun x y : Int => decide (x ≤ y)) (fun a b c h1 h2 => by simp at *; omega) (fun a b => by simp; omega) l
  exact h.imp (fun h => by simpa using h)

end Go.Proofs.YtglajokjiphafaaDoor.Kit

namespace Go.Proofs.YtglajokjiphafaaDoor.P
open Go.RowKit Go.Proofs.YtglajokjiphafaaDoorW.PrintWords Go.Proofs.YtglajokjiphafaaDoorW.PrintLast Go.Proofs.YtglajokjiphafaaDoorW.PrintMore
open Go.Sort
set_option linter.unusedSimpArgs false

theorem reps_nums {k : IntKind} {xs : List Int} {cs : List Value} (h : Reps (fun (x : Int) cs => cs = [Value.int k x]) 1 xs cs) : cs = nums k xs := by
  obtain ⟨hl, he⟩ := h
  apply List.ext_getElem?
  intro j
  by_cases hj : j < xs.length
  · have h1 := he j xs[j] (List.getElem?_eq_getElem hj)
    rw [Nat.mul_one] at h1
    have h2 : cs[j]? = ((cs.drop j).take 1)[0]? := by simp
    rw [h2, h1]
    simp [nums, List.getElem?_eq_getElem hj]
  · rw [List.getElem?_eq_none (by omega), List.getElem?_eq_none (by rw [nums_length]; omega)]
theorem reps_of_nums (k : IntKind) (xs : List Int) : Reps (fun (x : Int) cs => cs = [Value.int k x]) 1 xs (nums k xs) := by
  refine ⟨by rw [nums_length, Nat.mul_one], fun j p hj => ?_⟩
  have hlt : j < xs.length := by
    rcases Nat.lt_or_ge j xs.length with h | h
    · exact h
    · rw [List.getElem?_eq_none h] at hj; cases hj
  rw [List.getElem?_eq_getElem hlt] at hj
  injection hj with hj
  rw [Nat.mul_one]
  apply List.ext_getElem?
  intro i
  cases i with
  | zero => simp [nums, List.getElem?_eq_getElem hlt, hj]
  | succ i =>
    simp
    omega
theorem R_int_own {k : IntKind} {e base : Nat} {ok : Nat → Prop} {w : World} {v : Value} {xs : List Int} (h : (Kd.int k).R e w base ok v xs) : (∀ j, v.ownBlock = some j → ok j) ∧ w.ownsRow base e 1 v xs.length (nums k xs) := by
  obtain ⟨h0, inner, ho, hr⟩ := h
  have : inner = nums k xs := reps_nums hr
  subst this
  exact ⟨h0, ho⟩
theorem R_int_mk {k : IntKind} {e base : Nat} {ok : Nat → Prop} {w : World} {v : Value} {xs : List Int} (h0 : ∀ j, v.ownBlock = some j → ok j) (ho : w.ownsRow base e 1 v xs.length (nums k xs)) : (Kd.int k).R e w base ok v xs :=
  ⟨h0, nums k xs, ho, reps_of_nums k xs⟩

/-- A row of the call's own, as the sort's contract sees it. -/
theorem holds_of_own {k : IntKind} {base g cap e : Nat} {w : World} {xs : List Int} (h : w.ownsRow base e 1 (.slice (some ⟨g, 0, none⟩) xs.length cap) xs.length (nums k xs)) :
    Holds (Value.int k) w g 0 xs.toArray ∧ g < w.heap.size := by
  obtain ⟨hl, h⟩ := h
  rcases h with ⟨h1, _⟩ | ⟨g', cap', cur, h1, hb, hh, hn, hc, hs, ht⟩
  · cases h1
  · injection h1 with h1 h2 h3
    injection h1 with h1
    injection h1 with h1
    subst h1
    refine ⟨fun j hj => ?_, (Array.getElem?_eq_some_iff.1 hh).1⟩
    simp only [List.size_toArray] at hj
    rw [Nat.mul_one] at ht
    constructor
    · have h4 : cur.toList[j]? = (nums k xs)[j]? := by
        rw [← ht, List.getElem?_take, if_pos hj]
      simp only [World.cell?, hh, Nat.zero_add]
      simp only [Option.isSome_none, Bool.false_eq_true, if_false]
      rw [← Array.getElem?_toList, h4]
      simp [nums, List.getElem?_eq_getElem hj, hj]
    · simp [World.frozen?, hh]

/-- What stands behind a row that was laid anew. -/
theorem own_put_row {k : IntKind} {base g cap e m : Nat} {os : Array Obj} {w : World} {xs ys : List Int} (hlen : ys.length = xs.length)
    (h : w.ownsRow base e 1 (.slice (some ⟨g, 0, none⟩) xs.length cap) xs.length (nums k xs)) :
    (grow (putRow (Value.int k) (Sort.ahead w m) g 0 ys.toArray) os).ownsRow base e 1 (.slice (some ⟨g, 0, none⟩) xs.length cap) ys.length (nums k ys) := by
  obtain ⟨hl, h⟩ := h
  rcases h with ⟨h1, _⟩ | ⟨g', cap', cur, h1, hb, hh, hn, hc, hs, ht⟩
  · cases h1
  · injection h1 with h1 h2 h3
    injection h1 with h1
    injection h1 with h1
    subst h1 h3
    have hg : g < w.heap.size := (Array.getElem?_eq_some_iff.1 hh).1
    refine ⟨by rw [nums_length, Nat.mul_one], .inr ⟨g, cap, putCells (Value.int k) 0 ys.toArray cur, by rw [hlen], hb, ?_, by omega, hc, by simp [putCells, hs], ?_⟩⟩
    · rw [heap_grow_old _ _ (by simpa using hg)]
      simp only [putRow, mapBlock, heap_ahead, Array.getElem?_modify, if_true, hh, Option.map_some, onCells]
    · rw [Nat.mul_one]
      apply List.ext_getElem?
      intro j
      rw [List.getElem?_take]
      by_cases hj : j < ys.length
      · have hjc : j < cur.size := by omega
        rw [if_pos hj]
        simp only [putCells, Array.getElem?_toList, Array.getElem?_mapIdx, Array.getElem?_eq_getElem hjc, Option.map_some, Nat.zero_le, true_and, Nat.zero_add, List.size_toArray, if_pos hj, Nat.sub_zero]
        simp [nums, List.getElem?_eq_getElem hj, hj]
      · rw [if_neg hj, List.getElem?_eq_none (by rw [nums_length]; omega)]

theorem below_put_row {k : IntKind} {B g m : Nat} {os : Array Obj} {w0 w : World} {d : Array Int} (hB : Below B w0 w) (hg : B ≤ g) (hlt : B ≤ w.heap.size) : Below B w0 (grow (putRow (Value.int k) (Sort.ahead w m) g 0 d) os) := by
  refine ⟨hB.os, hB.tape, hB.output, ?_, fun i hi => ?_⟩
  · have := hB.size
    simp [Sort.ahead]
    omega
  · rw [heap_grow_old _ _ (by simp; omega)]
    simp only [putRow, mapBlock, heap_ahead, Array.getElem?_modify]
    rw [if_neg (by omega)]
    exact hB.block i hi
theorem kept_put_row {k : IntKind} {g m : Nat} {os : Array Obj} {w : World} {d : Array Int} {S : Nat → Prop} (hS : S g) : Kept w (grow (putRow (Value.int k) (Sort.ahead w m) g 0 d) os) S := by
  refine ⟨by simp [Sort.ahead], fun i hi hn => ?_⟩
  rw [heap_grow_old _ _ (by simpa using hi)]
  simp only [putRow, mapBlock, heap_ahead, Array.getElem?_modify]
  rw [if_neg (fun e : g = i => hn (e ▸ hS))]

def slices_Sort_int_int.f (l0 : List Int) : Option (List Int) := if l0.length < 4611686018427387904 then some (Kit.isort l0) else none
theorem slices_Sort_int_int.calls (P0_ : Nat → Prop) (u9000_ : Value) (l0 : List Int) (r : List Int) (w0 w : World) (hB : Below w0.heap.size w0 w) (ho0 : Kd.R (Kd.int .i64) 3 w w0.heap.size P0_ u9000_ l0) (h : slices_Sort_int_int.f l0 = some r) :
    Calls Tryd.prog 71 #[u9000_] w fun e w' => e = .returned (.tuple #[]) ∧ Kd.R (Kd.int .i64) 3 w' w0.heap.size (fun k_ => (P0_ k_ ∨ w.heap.size ≤ k_)) u9000_ r ∧ Below w0.heap.size w0 w' ∧ Kept w w' (fun k_ => P0_ k_) := by
  unfold slices_Sort_int_int.f at h
  split at h
  case isFalse => cases h
  rename_i hsz
  injection h with h
  subst h
  obtain ⟨h0, ho⟩ := R_int_own ho0
  have ho' := ho
  rcases ho'.2 with ⟨rfl, hn⟩ | ⟨g, cap, cur, rfl, hb, hh, hn, hc, hs, ht⟩
  · have : l0 = [] := List.eq_nil_of_length_eq_zero hn
    subst this
    refine (Tryd.slices_Sort_int_none none 0 w).mono ?_
    rintro e w' ⟨rfl, rfl⟩
    exact ⟨rfl, Kd.R_nil _ _ _ _ _, hB, Kept.refl _ _⟩
  · obtain ⟨hH, hg⟩ := holds_of_own ho
    refine (Tryd.slices_Sort_int g 0 cap l0 w hH hg hsz).mono ?_
    rintro e w' ⟨rfl, m, os, rfl⟩
    rw [Kit.mergeSort_isort]
    refine ⟨rfl, R_int_mk (fun j hj => .inl (h0 j hj)) ?_, below_put_row hB hb hB.size, kept_put_row (h0 g rfl)⟩
    exact own_put_row (Kit.isort_length l0) ho

end Go.Proofs.YtglajokjiphafaaDoor.P

set_option linter.unusedSimpArgs false
set_option linter.unusedVariables false
namespace Go.Proofs.YtglajokjiphafaaDoor.P
open Go.RowKit Go.Proofs.YtglajokjiphafaaDoorW.PrintWords Go.Proofs.YtglajokjiphafaaDoorW.PrintLast Go.Proofs.YtglajokjiphafaaDoorW.PrintMore
open Go.Sort

/-- A row of the call's own, cut shorter. -/
theorem own_prefix {k : IntKind} {base g cap e n : Nat} {w : World} {xs : List Int} (m : Nat) (hm : m ≤ n) (h : w.ownsRow base e 1 (.slice (some ⟨g, 0, none⟩) n cap) n (nums k xs)) :
    w.ownsRow base e 1 (.slice (some ⟨g, 0, none⟩) m cap) m (nums k (xs.take m)) := by
  obtain ⟨hl, h⟩ := h
  rw [nums_length, Nat.mul_one] at hl
  rcases h with ⟨h1, _⟩ | ⟨g', cap', cur, h1, hb, hh, hn, hc, hs, ht⟩
  · cases h1
  · injection h1 with h1 h2 h3
    injection h1 with h1
    injection h1 with h1
    subst h1 h3
    refine ⟨by rw [nums_length, List.length_take]; omega, .inr ⟨g, cap, cur, rfl, hb, hh, by omega, hc, hs, ?_⟩⟩
    rw [Nat.mul_one] at ht ⊢
    have h4 : nums k (xs.take m) = (nums k xs).take m := by unfold nums; rw [List.map_take]
    rw [h4, ← ht, List.take_take, Nat.min_eq_left hm]
theorem compact_len (l : List Int) : (Lib.compact l).length ≤ l.length := by
  unfold Lib.compact Lib.compactUpTo
  rw [List.length_map]
  exact Nat.le_trans (List.length_filter_le _ _) (by rw [List.length_range]; exact Nat.le_refl _)
theorem compact_mem {l : List Int} {x : Int} : x ∈ Lib.compact l ↔ ∃ j, j < l.length ∧ (j = 0 ∨ Go.Proofs.YtglajokjiphafaaDoorW.PrintWords.rd l (j : Int) ≠ Go.Proofs.YtglajokjiphafaaDoorW.PrintWords.rd l ((j - 1 : Nat) : Int)) ∧ Go.Proofs.YtglajokjiphafaaDoorW.PrintWords.rd l (j : Int) = x := by
  unfold Lib.compact Lib.compactUpTo
  rw [List.mem_map]
  have e : ∀ j : Nat, l.toArray[j]! = Go.Proofs.YtglajokjiphafaaDoorW.PrintWords.rd l (j : Int) := fun j => by unfold Go.Proofs.YtglajokjiphafaaDoorW.PrintWords.rd; simp
  constructor
  · rintro ⟨j, hj, rfl⟩
    rw [List.mem_filter, List.mem_range] at hj
    refine ⟨j, hj.1, ?_, (e j).symm⟩
    have := hj.2
    unfold Lib.keeps at this
    rw [e, e] at this
    simpa using this
  · rintro ⟨j, hj, h, rfl⟩
    refine ⟨j, List.mem_filter.2 ⟨List.mem_range.2 hj, ?_⟩, e j⟩
    unfold Lib.keeps
    rw [e, e]
    simpa using h
theorem rd_sorted {l : List Int} (h : l.Pairwise (· ≤ ·)) {i j : Nat} (hij : i ≤ j) (hj : j < l.length) : Go.Proofs.YtglajokjiphafaaDoorW.PrintWords.rd l (i : Int) ≤ Go.Proofs.YtglajokjiphafaaDoorW.PrintWords.rd l (j : Int) := by
  rcases Nat.eq_or_lt_of_le hij with rfl | hlt
  · exact Int.le_refl _
  · have := List.pairwise_iff_getElem.1 h i j (by omega) hj hlt
    unfold Go.Proofs.YtglajokjiphafaaDoorW.PrintWords.rd
    simpa [hj, show i < l.length by omega] using this
theorem compact_asc {l : List Int} (h : l.Pairwise (· ≤ ·)) : (Lib.compact l).Pairwise (· < ·) := by
  unfold Lib.compact Lib.compactUpTo
  rw [List.pairwise_map]
  have e : ∀ j : Nat, l.toArray[j]! = Go.Proofs.YtglajokjiphafaaDoorW.PrintWords.rd l (j : Int) := fun j => by unfold Go.Proofs.YtglajokjiphafaaDoorW.PrintWords.rd; simp
  refine ((List.pairwise_lt_range (n := l.length)).filter _).imp_of_mem (fun {i j} hi hj hij => ?_)
  rw [List.mem_filter, List.mem_range] at hi hj
  have h2 := hj.2
  unfold Lib.keeps at h2
  rw [e, e] at h2
  have h3 : Go.Proofs.YtglajokjiphafaaDoorW.PrintWords.rd l (j : Int) ≠ Go.Proofs.YtglajokjiphafaaDoorW.PrintWords.rd l ((j - 1 : Nat) : Int) := by
    have : ¬ j = 0 := by omega
    simpa [this] using h2
  rw [e, e]
  have h4 := rd_sorted h (show i ≤ j - 1 by omega) (by omega)
  have h5 := rd_sorted h (show j - 1 ≤ j by omega) hj.1
  omega
theorem compact_all {l : List Int} (h : l.Pairwise (· ≤ ·)) {x : Int} : x ∈ Lib.compact l ↔ x ∈ l := by
  rw [compact_mem]
  have key : ∀ j, j < l.length → Go.Proofs.YtglajokjiphafaaDoorW.PrintWords.rd l (j : Int) = x → ∃ j, j < l.length ∧ (j = 0 ∨ Go.Proofs.YtglajokjiphafaaDoorW.PrintWords.rd l (j : Int) ≠ Go.Proofs.YtglajokjiphafaaDoorW.PrintWords.rd l ((j - 1 : Nat) : Int)) ∧ Go.Proofs.YtglajokjiphafaaDoorW.PrintWords.rd l (j : Int) = x := by
    intro j
    induction j with
    | zero => intro hj e; exact ⟨0, hj, .inl rfl, e⟩
    | succ j ih =>
      intro hj e
      by_cases h2 : Go.Proofs.YtglajokjiphafaaDoorW.PrintWords.rd l (j : Int) = x
      · exact ih (by omega) h2
      · exact ⟨j + 1, hj, .inr (by rw [e, show j + 1 - 1 = j from rfl]; exact fun h3 => h2 h3.symm), e⟩
  constructor
  · rintro ⟨j, hj, _, rfl⟩
    unfold Go.Proofs.YtglajokjiphafaaDoorW.PrintWords.rd
    simp [hj]
  · intro hx
    obtain ⟨j, hj, e⟩ := List.getElem_of_mem hx
    exact key j hj (by unfold Go.Proofs.YtglajokjiphafaaDoorW.PrintWords.rd; simp [hj, e])
theorem grow_none (w : World) : grow w #[] = w := by simp [grow]
def slices_Compact_int_int.f (l0 : List Int) : Option (List Int) := if l0.length < 4611686018427387904 then some (Lib.compact l0) else none
theorem slices_Compact_int_int.calls (P0_ : Nat → Prop) (u9000_ : Value) (l0 : List Int) (r : List Int) (w0 w : World) (hB : Below w0.heap.size w0 w) (ho0 : Kd.R (Kd.int .i64) 3 w w0.heap.size P0_ u9000_ l0) (h : slices_Compact_int_int.f l0 = some r) :
    Calls Tryd.prog 72 #[u9000_] w fun e w' => ∃ v0_, e = .returned v0_ ∧ Kd.R (Kd.int .i64) 3 w' w0.heap.size (fun k_ => (P0_ k_ ∨ w.heap.size ≤ k_)) v0_ r ∧ Below w0.heap.size w0 w' ∧ Kept w w' (fun k_ => P0_ k_) := by
  unfold slices_Compact_int_int.f at h
  split at h
  case isFalse => cases h
  rename_i hsz
  injection h with h
  subst h
  obtain ⟨h0, ho⟩ := R_int_own ho0
  have ho' := ho
  rcases ho'.2 with ⟨rfl, hn⟩ | ⟨g, cap, cur, rfl, hb, hh, hn, hc, hs, ht⟩
  · have : l0 = [] := List.eq_nil_of_length_eq_zero hn
    subst this
    refine (Tryd.slices_Compact_int_empty none 0 w).mono ?_
    rintro e w' ⟨rfl, rfl⟩
    exact ⟨_, rfl, Kd.R_nil _ _ _ _ _, hB, Kept.refl _ _⟩
  · obtain ⟨hH, hg⟩ := holds_of_own ho
    have hlen := compact_len l0
    refine (Tryd.slices_Compact_int g 0 cap l0 w hH (by omega) hn).mono ?_
    rintro e w' ⟨rfl, q, rfl⟩
    have hl2 : (Lib.compact l0 ++ List.replicate (l0.length - (Lib.compact l0).length) 0).length = l0.length := by simp; omega
    have h1 := own_put_row (m := q) (os := #[]) hl2 ho
    have h2 := own_prefix (Lib.compact l0).length (by omega) (by rw [hl2] at h1; exact h1)
    rw [List.take_left' rfl, grow_none] at h2
    have h3 := below_put_row (k := .i64) (m := q) (os := #[]) (d := (Lib.compact l0 ++ List.replicate (l0.length - (Lib.compact l0).length) 0).toArray) hB hb hB.size
    rw [grow_none] at h3
    have h4 := kept_put_row (k := .i64) (m := q) (os := #[]) (d := (Lib.compact l0 ++ List.replicate (l0.length - (Lib.compact l0).length) 0).toArray) (w := w) (S := P0_) (h0 g rfl)
    rw [grow_none] at h4
    exact ⟨_, rfl, R_int_mk (fun j hj => .inl (h0 j hj)) h2, h3, h4⟩
end Go.Proofs.YtglajokjiphafaaDoor.P

namespace Go.Proofs.YtglajokjiphafaaDoor.P
open Go.RowKit Go.Proofs.YtglajokjiphafaaDoorW.PrintWords Go.Proofs.YtglajokjiphafaaDoorW.PrintLast Go.Proofs.YtglajokjiphafaaDoorW.PrintMore
attribute [local go_sem] max2_int min2_int max_two min_two max_three min_three max_four min_four   -- for this text's walks alone
set_option linter.unusedVariables false
set_option linter.unusedSimpArgs false

/-! ### find_design_told: function 63 -/
def find_design_told.l0 : Nat → Int → List Bool → Int → Int → Int → List (List Int) → Option (Int × Bool × Int)
  | 0, _, _, _, _, _, _ => none
  | k + 1, x6, x18, x19, x20, x1000, x1001 => if x20 < x19 then (if 0 ≤ x20 then (if x20 < (x18.length : Int) then (if rdOf false x18 x20 = true then ((find_family.f x6 x20).bind fun t112 => (find_design_told.l0 k t112 x18 x19 (wrap64 (x20 + 1)) x1000 x1001)) else (find_design_told.l0 k x6 x18 x19 (wrap64 (x20 + 1)) x1000 x1001)) else (none)) else (none)) else (some (x6, true, x1000))
def find_design_told.f (k : Nat) (s0_0 : Int) (s0_1 : List (List Int)) (l1 : List Bool) : Option (Int × Bool × Int) := if (l1.length : Int) = (s0_1.length : Int) then (find_design_told.l0 k 0 l1 (l1.length : Int) 0 s0_0 s0_1) else (some (0, false, s0_0))
theorem find_design_told.mono_l : ∀ k, (∀ y0 y1 y2 y3 y4 y5, LeO (find_design_told.l0 k y0 y1 y2 y3 y4 y5) (find_design_told.l0 (k + 1) y0 y1 y2 y3 y4 y5))
  | 0 => fun _ _ _ _ _ _ r h => by simp [find_design_told.l0] at h
  | k + 1 => by
    have ih0 := find_design_told.mono_l k
    · intro y0 y1 y2 y3 y4 y5
      unfold find_design_told.l0
      repeat' first
      | (with_reducible exact ih0 _ _ _ _ _ _)
      | (with_reducible exact LeO.refl _)
      | (with_reducible exact LeO.none _)
      | (with_reducible refine LeO.ite ?_ ?_)
      | (with_reducible refine LeO.bind ?_ (fun _ => ?_))
      | exact ih0 _ _ _ _ _ _
      | exact LeO.none _
      | refine LeO.ite ?_ ?_
      | refine LeO.bind ?_ (fun _ => ?_)
theorem find_design_told.mono : ∀ a0 a1 a2 k, LeO (find_design_told.f k a0 a1 a2) (find_design_told.f (k + 1) a0 a1 a2) := by
  intro a0 a1 a2 k
  have ih0 := find_design_told.mono_l k
  unfold find_design_told.f
  repeat' first
      | (with_reducible exact ih0 _ _ _ _ _ _)
      | (with_reducible exact LeO.refl _)
      | (with_reducible exact LeO.none _)
      | (with_reducible refine LeO.ite ?_ ?_)
      | (with_reducible refine LeO.bind ?_ (fun _ => ?_))
      | exact ih0 _ _ _ _ _ _
      | exact LeO.none _
      | refine LeO.ite ?_ ?_
      | refine LeO.bind ?_ (fun _ => ?_)
set_option maxHeartbeats 8000000 in
set_option maxRecDepth 100000 in
theorem find_design_told.calls (k : Nat) (g : Nat) (s0_0 : Int) (s0_1 : List (List Int)) (A1 : Option Addr) (c1 : Nat) (l1 : List Bool) (r1 : Int) (r2 : Bool) (r3 : Int) (w0 w : World) (hI : IsS98 w0 w g s0_0 s0_1) (hB : Below w0.heap.size w0 w) (hr1 : Kd.C Kd.bool w A1 l1.length l1) (hc1 : l1.length ≤ c1) (hf1 : ∀ ad, A1 = some ad → 0 < l1.length → ad.block ≠ g) (h : find_design_told.f k s0_0 s0_1 l1 = some (r1, r2, r3)) :
    Calls Tryd.prog 63 #[.pointer (some ⟨g, 0, none⟩), .slice A1 l1.length c1] w fun e w' => e = .returned (.tuple #[.int .u64 r1, .bool r2]) ∧ IsS98 w0 w' g r3 s0_1 ∧ Below w0.heap.size w0 w' ∧ KeepBut w w' g none := by
  have HR1 := Aside0.mk hr1
  have HC1 := Aside0.mk hc1
  clear hr1 hc1
  have HI0 := Aside0.mk hI
  have HK := Aside0.mk (KeepBut.refl w g none)
  have HL := Aside0.mk hB.size
  clear hI
  have HW0 := Aside0.mk hB.size
  have HB := Aside0.mk hB
  clear hB
  have H : (if (l1.length : Int) = (s0_1.length : Int) then (find_design_told.l0 k 0 l1 (l1.length : Int) 0 s0_0 s0_1) else (some (0, false, s0_0))) = some (r1, r2, r3) := h
  clear h
  by_cases c3 : (l1.length : Int) = (s0_1.length : Int)
  · rw [if_pos c3] at H
    have c3b0 : ((l1.length : Int) == (s0_1.length : Int)) = true := beq_iff_eq.mpr c3
    have c3b1 : ((l1.length : Int) != (s0_1.length : Int)) = false := bne_eq_false_iff_eq.mpr c3
    have c3b2 : (l1.length == s0_1.length) = true := by first | simpa using c3 | (simp at c3 ⊢; omega)
    clear c3
    have H' := Aside0.mk H
    clear H
    obtain ⟨ASz4_1, cSz4_1, HGz4, hgz4, HSz4_1⟩ := HI0.out
    have hcz4_0 := cellS98_0 HGz4
    have hcz4_1 := cellS98_1 HGz4
    have hfz4_0 := blk_frozen HGz4 0
    clear HGz4 hgz4
    go_enter Tryd.func63, Tryd.ntmps63
    go_wp2
    go_loopg [6, 20] k (fun kq v6 v20 w' => ∃ (x6_1 : Int) (x20_1 : Int), v6 = .int .u64 x6_1 ∧ v20 = .int .i64 x20_1 ∧ Aside0 (find_design_told.l0 kq x6_1 l1 (l1.length : Int) x20_1 s0_0 s0_1 = some (r1, r2, r3)) ∧ Aside0 (kq ≤ k) ∧ Aside0 (IsS98 w0 w' g s0_0 s0_1) ∧ Aside0 (KeepBut w w' g none) ∧ Aside0 (Below w0.heap.size w0 w'))
    case atStart => exact ⟨(0), (0), (by first | rfl | (simp; done) | (simp [*]; done)), (by first | rfl | (simp; done) | (simp [*]; done)), H', ⟨Nat.le_refl _⟩, ⟨by repeat (first | (with_reducible first | exact HI0.out | apply IsS98.alloc | apply IsS98.drewN | apply IsS98.drew | apply IsS98.set_0) | exact HI0.out)⟩, ⟨by repeat (first | (with_reducible first | exact HK.out | apply KeepBut.set_ | apply keep_drewN | apply keep_drew | apply keep_alloc) | exact HK.out)⟩, ⟨by repeat (first | (with_reducible first | exact HB.out | apply below_alloc | apply pw_below_drewN | apply below_drew1 | refine below_set ?_ (IsS98.ge HI0.out)) | exact HB.out)⟩⟩
    case round =>
      clear H'
      try clear c1
      try clear p2
      try clear c3
      try clear c3b0
      try clear c3b1
      try clear c3b2
      try clear hcz4_0
      try clear hcz4_1
      try clear hfz4_0
      obtain ⟨x6_1, x20_1, rfl, rfl, HA, HK1, HI0, HK, HB⟩ := hrel
      cases gk with
      | zero => exact absurd HA.out (by simp [find_design_told.l0])
      | succ k1 =>
        have H := HA.out
        clear HA
        simp only [find_design_told.l0] at H
        by_cases c5 : x20_1 < (l1.length : Int)
        · rw [if_pos c5] at H
          have c5b0 : decide (x20_1 < (l1.length : Int)) = true := decide_eq_true c5
          clear c5
          by_cases c6 : 0 ≤ x20_1
          · rw [if_pos c6] at H
            have c6b0 : decide (0 ≤ x20_1) = true := decide_eq_true c6
            clear c6
            by_cases c7 : x20_1 < (l1.length : Int)
            · rw [if_pos c7] at H
              have c7b0 : decide (x20_1 < (l1.length : Int)) = true := decide_eq_true c7
              clear c7
              obtain ⟨bq8, hbq8⟩ : ∃ b_ : Bool, b_ = (rdOf false l1 x20_1) := ⟨_, rfl⟩
              replace H : (if bq8 = true then ((find_family.f x6_1 x20_1).bind fun t112 => (find_design_told.l0 k1 t112 l1 (l1.length : Int) (wrap64 (x20_1 + 1)) s0_0 s0_1)) else (find_design_told.l0 k1 x6_1 l1 (l1.length : Int) (wrap64 (x20_1 + 1)) s0_0 s0_1)) = some (r1, r2, r3) := by rw [← hbq8] at H; exact H
              have Nbq8 := Aside0.mk hbq8
              clear hbq8
              by_cases c9 : bq8 = true
              · subst c9
                have H1 : ((find_family.f x6_1 x20_1).bind fun t112 => (find_design_told.l0 k1 t112 l1 (l1.length : Int) (wrap64 (x20_1 + 1)) s0_0 s0_1)) = some (r1, r2, r3) := by rw [if_pos rfl] at H; exact H
                clear H
                have H := H1
                clear H1
                replace H := Option.bind_eq_some_iff.mp H
                obtain ⟨t112, A100, H⟩ := H
                replace H : (find_design_told.l0 k1 t112 l1 (l1.length : Int) (wrap64 (x20_1 + 1)) s0_0 s0_1) = some (r1, r2, r3) := H
                have A10 := Aside0.mk A100
                clear A100
                have H' := Aside0.mk H
                clear H
                have p111 : 0 ≤ (x20_1 : Int) := of_decide_eq_true (by first | (with_reducible assumption) | assumption)
                have q111 : x20_1 < (l1.length : Int) := of_decide_eq_true (by first | (with_reducible assumption) | assumption)
                obtain ⟨ad111, e111, hx111_0⟩ := Kd.at_bool HR1.out x20_1 p111 q111
                (try rw [← Nbq8.out] at hx111_0)
                cases e111
                replace hx111_0 := keep_cell HK.out hx111_0 (by first | (rw [add_block]; exact hf1 _ rfl (by omega)) | exact hf1 _ rfl (by omega) | exact hf1 ad111 rfl (by omega))
                replace p111 := eq_true p111
                replace q111 := eq_true q111
                go_wp2_with (first | ((with_reducible refine gate_callee (f := 76) rfl ?_); refine goesL_ (some 28) rfl rfl Tryd.func76 (by kernel_rfl) rfl #[.int .u64 x6_1, .int .i64 x20_1] rfl (by (try simp only [List.map_toArray, List.map_cons, List.map_nil]); first | done | rfl | (simp only [List.length_drop, List.length_take]; rfl)) ?_; (with_reducible refine (find_family.calls x6_1 x20_1 t112 _ A10.out).mono ?_); rintro e w' ⟨rfl, ⟨nd, rfl⟩⟩; refine ⟨_, rfl, ?_⟩))
                go_roundg k1
                case measure => have := HK1.out; omega
                case rel => exact ⟨(t112), (wrap64 (x20_1 + 1)), (by first | rfl | (simp; done) | (simp [*]; done)), (by first | rfl | (simp; done) | (simp [*]; done)), H', ⟨by have := HK1.out; omega⟩, ⟨by repeat (first | (with_reducible first | exact HI0.out | apply IsS98.alloc | apply IsS98.drewN | apply IsS98.drew | apply IsS98.set_0) | exact HI0.out)⟩, ⟨by repeat (first | (with_reducible first | exact HK.out | apply KeepBut.set_ | apply keep_drewN | apply keep_drew | apply keep_alloc) | exact HK.out)⟩, ⟨by repeat (first | (with_reducible first | exact HB.out | apply below_alloc | apply pw_below_drewN | apply below_drew1 | refine below_set ?_ (IsS98.ge HI0.out)) | exact HB.out)⟩⟩
              · replace c9 := Bool.eq_false_iff.mpr c9
                subst c9
                have H1 : (find_design_told.l0 k1 x6_1 l1 (l1.length : Int) (wrap64 (x20_1 + 1)) s0_0 s0_1) = some (r1, r2, r3) := by rw [if_neg (show ¬ (false = true) by decide)] at H; exact H
                clear H
                have H := H1
                clear H1
                have H' := Aside0.mk H
                clear H
                have p111 : 0 ≤ (x20_1 : Int) := of_decide_eq_true (by first | (with_reducible assumption) | assumption)
                have q111 : x20_1 < (l1.length : Int) := of_decide_eq_true (by first | (with_reducible assumption) | assumption)
                obtain ⟨ad111, e111, hx111_0⟩ := Kd.at_bool HR1.out x20_1 p111 q111
                (try rw [← Nbq8.out] at hx111_0)
                cases e111
                replace hx111_0 := keep_cell HK.out hx111_0 (by first | (rw [add_block]; exact hf1 _ rfl (by omega)) | exact hf1 _ rfl (by omega) | exact hf1 ad111 rfl (by omega))
                replace p111 := eq_true p111
                replace q111 := eq_true q111
                go_wp2
                go_roundg k1
                case measure => have := HK1.out; omega
                case rel => exact ⟨(x6_1), (wrap64 (x20_1 + 1)), (by first | rfl | (simp; done) | (simp [*]; done)), (by first | rfl | (simp; done) | (simp [*]; done)), H', ⟨by have := HK1.out; omega⟩, ⟨by repeat (first | (with_reducible first | exact HI0.out | apply IsS98.alloc | apply IsS98.drewN | apply IsS98.drew | apply IsS98.set_0) | exact HI0.out)⟩, ⟨by repeat (first | (with_reducible first | exact HK.out | apply KeepBut.set_ | apply keep_drewN | apply keep_drew | apply keep_alloc) | exact HK.out)⟩, ⟨by repeat (first | (with_reducible first | exact HB.out | apply below_alloc | apply pw_below_drewN | apply below_drew1 | refine below_set ?_ (IsS98.ge HI0.out)) | exact HB.out)⟩⟩
            · rw [if_neg c7] at H
              exact absurd H (by simp)
          · rw [if_neg c6] at H
            exact absurd H (by simp)
        · rw [if_neg c5] at H
          have c5b0 : decide (x20_1 < (l1.length : Int)) = false := decide_eq_false c5
          clear c5
          simp only [Option.some.injEq, Prod.mk.injEq] at H
          obtain ⟨rfl, rfl, rfl⟩ := H
          go_wp2
          go_ret2
          exact ⟨by first | rfl | (simp [errW_none, errW_some] <;> rfl) | (simp [*, errW_none, errW_some] <;> rfl), by repeat (first | (with_reducible first | exact HI0.out | apply IsS98.alloc | apply IsS98.drewN | apply IsS98.drew | apply IsS98.set_0) | exact HI0.out), by repeat (first | (with_reducible first | exact HB.out | apply below_alloc | apply pw_below_drewN | apply below_drew1 | refine below_set ?_ (IsS98.ge HI0.out)) | exact HB.out), by repeat (first | (with_reducible first | exact HK.out | apply KeepBut.set_ | apply keep_drewN | apply keep_drew | apply keep_alloc) | exact HK.out)⟩
  · rw [if_neg c3] at H
    have c3b0 : ((l1.length : Int) == (s0_1.length : Int)) = false := beq_eq_false_iff_ne.mpr c3
    have c3b1 : ((l1.length : Int) != (s0_1.length : Int)) = true := bne_iff_ne.mpr c3
    have c3b2 : (l1.length == s0_1.length) = false := by first | simpa using c3 | (simp at c3 ⊢; omega)
    simp only [Option.some.injEq, Prod.mk.injEq] at H
    obtain ⟨rfl, rfl, rfl⟩ := H
    obtain ⟨ASz11_1, cSz11_1, HGz11, hgz11, HSz11_1⟩ := HI0.out
    have hcz11_0 := cellS98_0 HGz11
    have hcz11_1 := cellS98_1 HGz11
    have hfz11_0 := blk_frozen HGz11 0
    clear HGz11 hgz11
    go_enter Tryd.func63, Tryd.ntmps63
    go_wp2
    go_ret2
    exact ⟨by first | rfl | (simp [errW_none, errW_some] <;> rfl) | (simp [*, errW_none, errW_some] <;> rfl), by repeat (first | (with_reducible first | exact HI0.out | apply IsS98.alloc | apply IsS98.drewN | apply IsS98.drew | apply IsS98.set_0) | exact HI0.out), by repeat (first | (with_reducible first | exact HB.out | apply below_alloc | apply pw_below_drewN | apply below_drew1 | refine below_set ?_ (IsS98.ge HI0.out)) | exact HB.out), by repeat (first | (with_reducible first | exact HK.out | apply KeepBut.set_ | apply keep_drewN | apply keep_drew | apply keep_alloc) | exact HK.out)⟩

end Go.Proofs.YtglajokjiphafaaDoor.P

set_option linter.unusedSimpArgs false
set_option linter.unusedVariables false
namespace Go.Proofs.YtglajokjiphafaaDoor.P
open Go.Lib Go.RowKit Go.Proofs.YtglajokjiphafaaDoorW.PrintWords Go.Proofs.YtglajokjiphafaaDoorW.PrintLast Go.Proofs.YtglajokjiphafaaDoorW.PrintMore Go.Proofs.YtglajokjiphafaaDoor.Kit
open Go.Sort
attribute [local go_sem] max2_int min2_int max_two min_two max_three min_three max_four min_four

theorem told_l0 (ls : List (List Int)) (o : List Bool) (ho : o.length ≤ 60) (m : Int) : ∀ d i, o.length - i = d → i ≤ o.length →
    Ev (fun k => find_design_told.l0 k (toldN (o.take i) : Int) o (o.length : Int) (i : Int) m ls) ((toldN o : Int), true, m) := by
  intro d
  induction d with
  | zero =>
    intro i hd hi
    have hie : i = o.length := by omega
    subst hie
    rw [List.take_length]
    refine Ev.step (fun k => ?_) (Ev.now ((toldN o : Int), true, m))
    simp only [find_design_told.l0]
    rw [if_neg (by omega)]
  | succ d ih =>
    intro i hd hi
    have hlt : i < o.length := by omega
    have ht : o.take (i + 1) = o.take i ++ [o[i]] := (List.take_succ_eq_append_getElem hlt)
    have hl : (o.take i).length = i := by rw [List.length_take]; omega
    have hrd : rdOf false o (i : Int) = o[i] := by unfold rdOf; simp [List.getD_eq_getElem?_getD, hlt]
    have h1 := ih (i + 1) (by omega) (by omega)
    rw [ht, toldN_snoc, hl] at h1
    have hw := wrap1 (i := i) (by omega)
    have ha := toldN_lt64 (l := o.take i) (by omega)
    refine Ev.step (fun k => ?_) h1
    simp only [find_design_told.l0]
    rw [if_pos (by omega), if_pos (by omega), if_pos (by omega), hrd]
    cases hb : o[i] with
    | true =>
      rw [if_pos rfl, if_pos rfl]
      unfold find_family.f
      rw [if_pos (by omega), Option.bind_some, shlu (by omega), oru _ _ ha (pow_lt64 (by omega)), hw]
    | false =>
      rw [if_neg (by decide), if_neg (by decide), Nat.or_zero, hw]
theorem told_ev (ls : List (List Int)) (o : List Bool) (ho : ls.length ≤ 60) (m : Int) : Ev (fun k => find_design_told.f k m ls o) (if o.length = ls.length then ((toldN o : Int), true, m) else (0, false, m)) := by
  by_cases h : o.length = ls.length
  · rw [if_pos h]
    have := told_l0 ls o (by omega) m o.length 0 (by omega) (by omega)
    rw [List.take_zero] at this
    refine Ev.congr (fun k => ?_) this
    unfold find_design_told.f
    rw [if_pos (by omega)]
    rfl
  · rw [if_neg h]
    refine Ev.congr (fun k => ?_) (Ev.now (0, false, m))
    unfold find_design_told.f
    rw [if_neg (by omega)]
theorem row_of_R {base e : Nat} {ok : Nat → Prop} {w : World} {v : Value} {xs : List Int} (h : (Kd.int .i64).R 3 w base ok v xs) : ∃ A c, v = .slice A xs.length c ∧ RowAt w A c xs := by
  have ho := R_int_own1 h
  obtain ⟨A, c, rfl⟩ := own_slice ho
  exact ⟨A, c, rfl, own_weaken ho (Nat.zero_le _)⟩
set_option maxHeartbeats 4000000
set_option maxRecDepth 100000
theorem clone_calls (A : Option Addr) (c : Nat) (l : List Int) (w : World) (h : Kd.C (Kd.int .i64) w A l.length l) (hl : l.length ≤ 1000) :
    Calls Tryd.prog 69 #[.slice A l.length c] w fun e w' => ∃ v, e = .returned v ∧ Kd.R (Kd.int .i64) 3 w' w.heap.size (fun _ => True) v l ∧ Below w.heap.size w w' := by
  cases A with
  | none =>
    have : l.length = 0 := by
      rcases Nat.eq_zero_or_pos l.length with h0 | h0
      · exact h0
      · obtain ⟨ad, e, _⟩ := h.2.2 h0; cases e
    have hl0 : l = [] := List.length_eq_zero_iff.1 this
    subst hl0
    refine (Tryd.slices_Clone_int_nil _ c w).mono ?_
    rintro e w' ⟨rfl, rfl⟩
    exact ⟨_, rfl, Kd.R_nil _ _ _ _ _, Below.refl _ _⟩
  | some a =>
    rcases Nat.eq_zero_or_pos l.length with h0 | h0
    · have hl0 : l = [] := List.length_eq_zero_iff.1 h0
      subst hl0
      refine (Tryd.slices_Clone_int_zero a c w).mono ?_
      rintro e w' ⟨v, rfl, ho, _, hb⟩
      exact ⟨v, rfl, R_int_mk (fun _ _ => trivial) ho, hb⟩
    · have hcell : ∀ j, j < l.length → w.cell? (a.add j) = some (.int .i64 (l.getD j 0)) := by
        intro j hj
        obtain ⟨ad', e', h1⟩ := Kd.at_int h (j : Int) (by omega) (by omega)
        injection e' with e'
        subst e'
        rw [rd_get l j hj, Int.toNat_natCast] at h1
        rw [h1]
        simp [List.getD_eq_getElem?_getD, hj]
      have hs : a.spot = none := by
        have h1 := hcell 0 h0
        have hadd : a.add 0 = a := by simp [Addr.add]
        rw [hadd] at h1
        unfold World.cell? at h1
        split at h1
        · split at h1
          · cases h1
          · rename_i h; simpa using h
        · cases h1
      obtain ⟨b, off, sp⟩ := a
      dsimp only at hs
      subst hs
      refine (Tryd.slices_Clone_int b off l.length c l w (Nat.le_refl _) (by omega) (fun j hj => ?_)).mono ?_
      · rw [← hcell j hj]
        unfold Addr.add
        by_cases e : j = 0
        · rw [if_pos e, e]; rfl
        · rw [if_neg e]
      · rintro e w' ⟨v, rfl, ho, _, hb⟩
        rw [List.take_of_length_le (Nat.le_refl _)] at ho
        exact ⟨v, rfl, R_int_mk (fun _ _ => trivial) ho, hb⟩
theorem cl1_calls (Bc : Nat) (A : Option Addr) (c : Nat) (cl : List Int) (x : Int) (W : World) (hc : W.cell? ⟨Bc, 0, none⟩ = some (.slice A cl.length c)) (hR : RowAt W A c cl) :
    FnGives Tryd.prog 70 #[.pointer (some ⟨Bc, 0, none⟩)] #[.int .i64 x] (.bool (cl.contains x)) W := by
  obtain ⟨b, hb⟩ : ∃ b, cl.contains x = b := ⟨_, rfl⟩
  rw [hb]
  have HC := fun W' (h : RowAt W' A c cl) => contains_calls A c cl x b W' h hb
  have HR := Aside0.mk hR
  show Calls _ _ #[.int .i64 x, .pointer (some ⟨Bc, 0, none⟩)] W _
  clear hb hR
  go_enter Tryd.func70, Tryd.ntmps70
  go_wp2_with (go_at_call 47; (refine (HC _ (by first | exact HR.out | exact HR.out.kp (Kp.of_below (pw_below_drewN (Below.refl _ _) _)))).mono ?_); rintro e w' ⟨rfl, rfl⟩)
  go_ret
  first | exact ⟨rfl, _, rfl⟩ | exact ⟨rfl, 0, rfl⟩
theorem DeleteFunc_nil (fv : Value) (w : World) : Calls Tryd.prog 68 #[.slice none 0 0, fv] w fun e w' => e = .returned (.slice none 0 0) ∧ w' = w := by
  have HI := fun W => Tryd.slices_IndexFunc_empty_f91 (α := Int) none 0 fv W
  go_enter Tryd.func68, Tryd.ntmps68
  go_wp2_with (go_at_call 91; (refine (HI _).mono ?_); rintro e w' ⟨rfl, rfl⟩)
  go_ret
  exact ⟨rfl, rfl⟩
theorem del_calls (Bc : Nat) (cl : List Int) (vc : Value) (bc : Nat) (okc : Nat → Prop) (u : Value) (l : List Int) (w0 w : World) (hB : Below w0.heap.size w0 w) (ho : Kd.R (Kd.int .i64) 3 w w0.heap.size (fun _ => True) u l) (hbx : w0.cell? ⟨Bc, 0, none⟩ = some vc) (hRc : Kd.R (Kd.int .i64) 3 w0 bc okc vc cl) (hl : l.length ≤ 1000) :
    Calls Tryd.prog 68 #[u, .func (.func 70) #[] #[.pointer (some ⟨Bc, 0, none⟩)]] w fun e w' => ∃ v, e = .returned v ∧ Kd.R (Kd.int .i64) 3 w' w0.heap.size (fun _ => True) v (leftL cl l) ∧ Below w0.heap.size w0 w' := by
  obtain ⟨Ac, cc, rfl, hRa⟩ := row_of_R (e := 3) hRc
  have key : ∀ W, Below w0.heap.size w0 W → ∀ x : Int, FnGives Tryd.prog 70 #[.pointer (some ⟨Bc, 0, none⟩)] #[.int .i64 x] (.bool (cl.contains x)) W := fun W hW x =>
    cl1_calls Bc Ac cc cl x W ((hW.cell (World.block_lt_of_cell? w0 _ hbx)).trans hbx) (hRa.kp (Kp.of_below hW))
  obtain ⟨h0, ho'⟩ := R_int_own ho
  have ho2 := ho'
  rcases ho2.2 with ⟨rfl, hn⟩ | ⟨g, cap, cur, rfl, hb, hh, hn, hc, hs, ht⟩
  · have : l = [] := List.eq_nil_of_length_eq_zero hn
    subst this
    refine (DeleteFunc_nil _ w).mono ?_
    rintro e w' ⟨rfl, rfl⟩
    exact ⟨_, rfl, Kd.R_nil _ _ _ _ _, hB⟩
  · obtain ⟨hH, hg⟩ := holds_of_own ho'
    have hO : OneCell (Value.int .i64) := fun _ => rfl
    have hsub : Below w0.heap.size w0 w := hB
    have hlen : (leftL cl l).length ≤ l.length := List.length_filter_le _ _
    refine (Tryd.slices_DeleteFunc (Value.int .i64) hO (fun x => cl.contains x) 70 #[.pointer (some ⟨Bc, 0, none⟩)] (enters_of Tryd.func70 (by kernel_rfl) rfl) 0 (fun _ => rfl) g 0 cap l.toArray w (fun W x hW => key W (hB.trans (hW.mono hB.size)) x) (fun n os dk x hdk => key _ (below_put_row hB hb hB.size) x) hH (by simp; omega) (by simp; omega)).mono ?_
    rintro e w' ⟨rfl, q, rfl⟩
    have hl2 : (leftL cl l ++ List.replicate (l.length - (leftL cl l).length) 0).length = l.length := by simp; omega
    have h1 := own_put_row (m := q) (os := #[]) hl2 ho'
    have h2 := own_prefix (leftL cl l).length (by omega) (by rw [hl2] at h1; exact h1)
    rw [List.take_left' rfl, grow_none] at h2
    have h3 := below_put_row (k := .i64) (m := q) (os := #[]) (d := (leftL cl l ++ List.replicate (l.length - (leftL cl l).length) 0).toArray) hB hb hB.size
    rw [grow_none] at h3
    exact ⟨_, rfl, R_int_mk (fun _ _ => trivial) h2, h3⟩
end Go.Proofs.YtglajokjiphafaaDoor.P

set_option linter.unusedSimpArgs false
set_option linter.unusedVariables false
namespace Go.Proofs.YtglajokjiphafaaDoor.P
open Go.Lib Go.RowKit Go.Proofs.YtglajokjiphafaaDoorW.PrintWords Go.Proofs.YtglajokjiphafaaDoorW.PrintLast Go.Proofs.YtglajokjiphafaaDoorW.PrintMore Go.Proofs.YtglajokjiphafaaDoor.Kit
attribute [local go_sem] max2_int min2_int max_two min_two max_three min_three max_four min_four

def clrP (n : Int) (d : List (List Int)) (o : List Bool) : List Int × List Int × Int :=
  if ofN n d = 0 then (if o.length = d.length then (clL n.toNat d o, Lib.compact (isort (aloneL d o (clL n.toNat d o))), 0) else ([], [], 2)) else ([], [], ofN n d)
def ClrPost (n : Int) (ls : List (List Int)) (o : List Bool) (w : World) (e : Ending) (w' : World) : Prop :=
  ∃ v0_ v1_ : Value, e = .returned (.tuple #[v0_, v1_, .int .i64 (clrP n ls o).2.2]) ∧ Kd.R (Kd.int .i64) 3 w' w.heap.size (fun _ => True) v0_ (clrP n ls o).1 ∧ Kd.R (Kd.int .i64) 3 w' w.heap.size (fun _ => True) v1_ (clrP n ls o).2.1 ∧ Below w.heap.size w w'
theorem clL_succ (t : Nat) (d : List (List Int)) (o : List Bool) : clL (t + 1) d o = if clB d o (t : Int) = true then clL t d o ++ [(t : Int)] else clL t d o := by
  unfold clL
  rw [List.range_succ, List.map_append, List.filter_append]
  cases h : clB d o (t : Int) <;> simp [h]
theorem clL_length (t : Nat) (d : List (List Int)) (o : List Bool) : (clL t d o).length ≤ t := by
  unfold clL
  refine Nat.le_trans (List.length_filter_le _ _) ?_
  simp
theorem aloneL_take (d : List (List Int)) (o : List Bool) (c : List Int) (i : Nat) (h1 : i < d.length) (h2 : i < o.length) :
    aloneL (d.take (i + 1)) (o.take (i + 1)) c = aloneL (d.take i) (o.take i) c ++ (aloneF c (d[i], o[i])).toList := by
  unfold aloneL
  rw [List.take_succ_eq_append_getElem h1, List.take_succ_eq_append_getElem h2, List.zip_append (by rw [List.length_take, List.length_take]; omega), List.filterMap_append]
  simp [List.filterMap_cons]
  cases aloneF c (d[i], o[i]) <;> rfl
theorem aloneL_length (d : List (List Int)) (o : List Bool) (c : List Int) : (aloneL d o c).length ≤ d.length := by
  unfold aloneL
  refine Nat.le_trans (List.length_filterMap_le _ _) ?_
  rw [List.length_zip]; omega
theorem C_block {w : World} {A : Option Addr} {l : List Bool} (h : Kd.C Kd.bool w A l.length l) : ∀ ad, A = some ad → 0 < l.length → ad.block < w.heap.size := by
  rintro ad rfl h0
  obtain ⟨ad', e, hc⟩ := h.2.2 h0
  injection e with e
  subst e
  obtain ⟨c, hs, hr, hcell⟩ := hc 0 _ (List.getElem?_eq_getElem h0)
  have h1 : 0 < c.length := by rw [hs]; exact Nat.zero_lt_one
  have h2 := hcell 0 _ (List.getElem?_eq_getElem h1)
  have hadd : ad.add 0 = ad := by simp [Addr.add]
  rw [show 0 * Kd.bool.sz + 0 = 0 by omega, hadd] at h2
  exact World.block_lt_of_cell? w _ h2
set_option maxHeartbeats 4000000
set_option maxRecDepth 100000
theorem clr_no (n : Int) (A1 : Option Addr) (c1 : Nat) (ls : List (List Int)) (A2 : Option Addr) (c2 : Nat) (o : List Bool) (w : World) (hr1 : Kd.C (Kd.slice 3 (Kd.int .i64)) w A1 ls.length ls) (hr2 : Kd.C Kd.bool w A2 o.length o) (hc2 : o.length ≤ c2) (h : ofN n ls ≠ 0 ∨ ¬ o.length = ls.length) :
    Calls Tryd.prog 38 #[.int .i64 n, .slice A1 ls.length c1, .slice A2 o.length c2] w (ClrPost n ls o w) := by
  by_cases h0 : ofN n ls = 0
  · have hD : ¬ o.length = ls.length := by rcases h with h | h; exact absurd h0 h; exact h
    have HP := Aside0.mk (show clrP n ls o = ([], [], 2) by unfold clrP; rw [if_pos h0, if_neg hD])
    have ht := told_ev ls o (ofN_ok h0).2.1 n
    rw [if_neg hD] at ht
    obtain ⟨k, hk⟩ := ht.rounds
    have HT := Aside0.mk hk
    have HO := Aside0.mk (of_ok n A1 c1 ls w hr1 h0)
    have HR2 := Aside0.mk hr2
    have HC2 := Aside0.mk hc2
    have HBk := Aside0.mk (C_block hr2)
    clear h h0 hD hr1 hr2 hc2 ht hk
    go_enter Tryd.func38, Tryd.ntmps38
    go_wp2_with (first | (go_at_call 42; (with_reducible refine (HO.out).mono ?_); rintro e w1 ⟨g, rfl, hI, hb⟩; have HB := Aside0.mk hb; have HI := Aside0.mk hI; clear hI hb) | (go_at_call 63; (refine (find_design_told.calls k g n ls A2 c2 o 0 false n w _ (by first | exact HI.out | exact HI.out.drewN _) (by first | exact HB.out | exact pw_below_drewN HB.out _) (by repeat (first | exact (Kd.C_below HR2.out HB.out) | (with_reducible refine Kd.C_alloc ?_ _) | (with_reducible refine Kd.C_drewN ?_ _) | (with_reducible refine Kd.C_drew ?_))) HC2.out (fun ad e h => by have := HBk.out ad e h; have := HI.out.ge; omega) HT.out).mono ?_); rintro e w2 ⟨rfl, _, hb2, _⟩; have HB2 := Aside0.mk hb2; clear hb2))
    go_ret3
    exact ⟨_, _, by rw [HP.out]; rfl, by rw [HP.out]; exact Kd.R_nil _ _ _ _ _, by rw [HP.out]; exact Kd.R_nil _ _ _ _ _, by repeat (first | exact HB2.out | apply pw_below_drewN | apply below_drew1)⟩
  · have e0 : (ofN n ls != 0) = true := by simpa using h0
    have e1 : (ofN n ls == 0) = false := by simpa using h0
    have HP := Aside0.mk (show clrP n ls o = ([], [], ofN n ls) by unfold clrP; rw [if_neg h0])
    have HO := Aside0.mk (of_no n A1 c1 ls _ w hr1 rfl h0)
    clear h h0 hr1 hr2 hc2
    go_enter Tryd.func38, Tryd.ntmps38
    go_wp2_with (first | (go_at_call 42; (with_reducible refine (HO.out).mono ?_); rintro e w1 ⟨rfl, hb⟩; have HB := Aside0.mk hb; clear hb))
    go_ret3
    exact ⟨_, _, by rw [HP.out]; rfl, by rw [HP.out]; exact Kd.R_nil _ _ _ _ _, by rw [HP.out]; exact Kd.R_nil _ _ _ _ _, by repeat (first | exact HB.out | apply pw_below_drewN | apply below_drew1)⟩
theorem R_moved {W W1 : World} {b : Nat} {ok : Nat → Prop} {v : Value} {xs : List Int} (h : Kd.R (Kd.int .i64) 3 W b ok v xs) (hm : ∀ k, v.ownBlock = some k → W1.heap[k]? = W.heap[k]?) : Kd.R (Kd.int .i64) 3 W1 b ok v xs := R_int_mk (R_int_own h).1 (own_move (R_int_own h).2 hm)
theorem box_put {W : World} {B : Nat} {u v : Value} {T : TypeId} (h : W.heap[B]? = some (.cells #[u] T (0, 0))) : (W.setCell ⟨B, 0, none⟩ v).heap[B]? = some (.cells #[v] T (0, 0)) := blk_put h 0 v rfl
theorem clr_yes (n : Nat) (A1 : Option Addr) (c1 : Nat) (ls : List (List Int)) (A2 : Option Addr) (c2 : Nat) (o : List Bool) (w : World) (hr1 : Kd.C (Kd.slice 3 (Kd.int .i64)) w A1 ls.length ls) (hr2 : Kd.C Kd.bool w A2 o.length o) (hc2 : o.length ≤ c2) (h0 : ofN (n : Int) ls = 0) (hol : o.length = ls.length) :
    Calls Tryd.prog 38 #[.int .i64 (n : Int), .slice A1 ls.length c1, .slice A2 o.length c2] w (ClrPost (n : Int) ls o w) := by
  have hn := (ofN_ok h0).1
  have hd := (ofN_ok h0).2.1
  have hn100 : n ≤ 100 := by omega
  have HN := Aside0.mk hn100
  have HD := Aside0.mk hd
  have HOL := Aside0.mk hol
  have HP := Aside0.mk (show clrP (n : Int) ls o = (clL n ls o, Lib.compact (isort (aloneL ls o (clL n ls o))), 0) by unfold clrP; rw [if_pos h0, if_pos hol]; rfl)
  have ht := told_ev ls o hd (n : Int)
  rw [if_pos hol] at ht
  obtain ⟨kt, hkt⟩ := ht.rounds
  have HT := Aside0.mk hkt
  have HRL := Aside0.mk (show ∀ r ∈ ls, r.length ≤ 1000 from fun r hr => by have := ris_length ((ofN_ok h0).2.2 r hr) (by omega); omega)
  have HO := Aside0.mk (of_ok (n : Int) A1 c1 ls w hr1 h0)
  have HCe := Aside0.mk (cols_ev n hn100 ls hd (ofN_rows h0) (ofN_lens h0)).rounds
  obtain ⟨k, hk⟩ := HCe.out
  have HK := Aside0.mk hk
  have HR1 := Aside0.mk hr1
  have HR2 := Aside0.mk hr2
  have HC2 := Aside0.mk hc2
  have HBk := Aside0.mk (C_block hr2)
  clear h0 hr1 hr2 hc2 hn hd hn100 HCe hk ht hkt hol
  go_enter Tryd.func38, Tryd.ntmps38
  go_wp2_with (first | (go_at_call 42; (with_reducible refine (HO.out).mono ?_); rintro e w1 ⟨g, rfl, hI, hb⟩; have HB := Aside0.mk hb; have HI := Aside0.mk hI; clear hI hb) | (go_at_call 63; (refine (find_design_told.calls kt g (n : Int) ls A2 c2 o (toldN o : Int) true (n : Int) w _ (by first | exact HI.out | exact HI.out.drewN _) (by first | exact HB.out | exact pw_below_drewN HB.out _) (by repeat (first | exact (Kd.C_below HR2.out HB.out) | (with_reducible refine Kd.C_alloc ?_ _) | (with_reducible refine Kd.C_drewN ?_ _) | (with_reducible refine Kd.C_drew ?_))) HC2.out (fun ad e h => by have := HBk.out ad e h; have := HI.out.ge; omega) HT.out).mono ?_); rintro e wt ⟨rfl, hIt, hbt, _⟩; have HIt := Aside0.mk hIt; have HBt := Aside0.mk hbt; clear hIt hbt) | (go_at_call 44; (refine (find_design_columns.calls k g (n : Int) ls (colsOf n ls) (n : Int) w _ (by repeat (first | exact HIt.out | apply IsS98.alloc | apply IsS98.drewN)) (by repeat (first | exact HBt.out | apply below_alloc | apply pw_below_drewN)) HK.out).mono ?_); rintro e w2 ⟨v0, rfl, hR2, _, hb2, hk2⟩; obtain ⟨A3, c3, rfl, hc3, hW3⟩ := Kd.R_reads hR2; have hbx := (hk2.2 wt.heap.size (by have := (Array.size_push (xs := wt.heap) (v := Obj.cells #[Value.slice none 0 0] 25)); first | exact Nat.lt_of_lt_of_le (Nat.lt_succ_self _) (Nat.le_of_eq this.symm) | omega) (by obtain ⟨_, _, hg, _⟩ := HIt.out; have := blk_lt hg; omega) (by simp)).trans (heap_alloc_new wt _); have HBX := Aside0.mk hbx; have HRC := Aside0.mk (Kd.R_lower (base' := w.heap.size) hR2 (by have h1 := HBt.out.size; have h2 := (Array.size_push (xs := wt.heap) (v := Obj.cells #[Value.slice none 0 0] 25)); first | exact Nat.le_trans h1 (Nat.le_trans (Nat.le_succ _) (Nat.le_of_eq h2.symm)) | omega)); have HC3 := Aside0.mk hc3; have HB2 := Aside0.mk hb2; have HGE := Aside0.mk HBt.out.size; clear hW3 hb2 hR2 hc3 hbx hk2))
  have HGX := Aside0.mk (show w.heap.size ≤ wt.heap.size from HGE.out)
  generalize wt.heap.size = Bc at *
  clear HIt HBt HGE HI HB HO HT HK
  go_loopw [40] (fun v40 w' => ∃ t : Nat, v40 = .int .i64 (t : Int) ∧ Aside0 (t ≤ n) ∧ Aside0 (∃ vc, w'.heap[Bc]? = some (.cells #[vc] 25 (0, 0)) ∧ Kd.R (Kd.int .i64) 3 w' w.heap.size (fun k => k ≠ Bc) vc (clL t ls o)) ∧ Aside0 (Kd.R (Kd.int .u64) 70 w' w.heap.size (fun _ => True) (.slice A3 (colsOf n ls).length c3) (colsOf n ls)) ∧ Aside0 (Below w.heap.size w w')) (fun v _ => n - (intOf v).toNat)
  case atStart => exact ⟨0, rfl, ⟨Nat.zero_le _⟩, ⟨⟨_, HBX.out, Kd.R_nil _ _ _ _ _⟩⟩, HRC, HB2⟩
  case round =>
    clear HBX HRC HB2
    obtain ⟨t, rfl, Ht, HV, HRC, HB⟩ := hrel
    obtain ⟨vc, hbx, hRv⟩ := HV.out
    clear HV
    have hcell : wr.cell? ⟨Bc, 0, none⟩ = some vc := (blk_cell hbx 0).trans rfl
    have HBX := Aside0.mk hbx
    have HRV := Aside0.mk hRv
    have hcl : (colsOf n ls).length = n := colsOf_length n ls
    by_cases ct : (t : Int) < ((colsOf n ls).length : Int)
    · have c1b : decide ((t : Int) < ((colsOf n ls).length : Int)) = true := decide_eq_true ct
      have htn : t < n := by omega
      have Hct := Aside0.mk htn
      have c1c : decide (t < n) = true := decide_eq_true htn
      have c1d : decide (t < (colsOf n ls).length) = true := decide_eq_true (by omega)
      have q1 := eq_true ct
      have q2 := eq_true (show t < (colsOf n ls).length by omega)
      obtain ⟨ad, eA, hx⟩ := Kd.at_int (Kd.R_reads' HRC.out).2.2 (t : Int) (by omega) ct
      subst eA
      rw [rd_colsOf n ls t htn, Int.toNat_natCast] at hx
      have hiff := clB_iff ls o HOL.out (t : Int)
      have hsu := clL_succ t ls o
      have hlen : (clL t ls o).length ≤ 100 := by have := clL_length t ls o; have := HN.out; omega
      have HLen := Aside0.mk hlen
      have hbit : (Go.bits .andNot .u64 (fam (t : Int) ls : Int) (toldN o : Int) != 0) = clB ls o (t : Int) := by
        rw [andnu _ _ (fam_lt64 _ (by have := HD.out; omega)) (toldN_lt64 (by have := HD.out; have := HOL.out; omega))]
        cases hb : clB ls o (t : Int) with
        | true => exact bne_iff_ne.2 (by have := hiff.1 hb; omega)
        | false =>
          have : andn (fam (t : Int) ls) (toldN o) = 0 := by
            rcases Nat.eq_zero_or_pos (andn (fam (t : Int) ls) (toldN o)) with h | h
            · exact h
            · have := hiff.2 (by omega); rw [hb] at this; cases this
          rw [this]; rfl
      clear hiff hlen hRv
      cases hb : clB ls o (t : Int) with
      | true =>
        rw [hb] at hbit
        rw [hb, if_pos rfl] at hsu
        have HSU := Aside0.mk hsu
        clear ct htn hsu hb hbx hcl
        go_wp2_with (first | ((with_reducible refine gate_builtin (b := .append) (xs := #[.tmp 49, .tmp 51]) rfl ?_); at_builtin; refine Kd.R_append (Kd.int .i64) (w0 := w) w.heap.size rfl (.tmp 49) (.tmp 51) 25 3 (.int .i64 0) 8 rfl Tryd.underlying25 info3 rfl (by decide) (by omega) vc (clL t ls o) (t : Int) [.int .i64 (t : Int)] (fun k => k ≠ Bc) (fun _ => False) rfl rfl ?aP (fun _ hk => hk.elim) ?aF ?aO ?aB ?aS ?aL ?_; (case aP => exact rfl); (case aB => exact (by repeat (first | (with_reducible first | exact HB.out | apply below_alloc | apply pw_below_drewN | apply below_drew1) | exact HB.out))); (case aF => exact (fun k hk => by have := blk_lt HBX.out; first | omega | exact fun e => absurd hk (by rw [e]; exact Nat.not_le_of_lt this))); (case aO => exact (by (with_reducible repeat (first | apply Kd.R_alloc | apply Kd.R_drewN | apply Kd.R_drew)); exact HRV.out)); (case aS => exact (below_size (by repeat (first | (with_reducible first | exact HB.out | apply below_alloc | apply pw_below_drewN | apply below_drew1) | exact HB.out)))); (case aL => have := HLen.out; omega); intro v7 w7 ho hb hg hat; rw [← HSU.out] at ho; have hbx7 := (hg.block Bc (blk_lt HBX.out) (Kd.R_away HRV.out (fun _ hk => hk))).trans HBX.out; have hc7 : w7.cell? ⟨Bc, 0, none⟩ = some vc := (blk_cell hbx7 0).trans rfl; have hf7 := blk_frozen hbx7 0; obtain ⟨A7, c7, rfl⟩ := Kd.R_slice ho; have HBX7 := Aside0.mk hbx7; have HRV7 := Aside0.mk ho; have HRC7 := Aside0.mk (Kd.R_over' (by (with_reducible repeat (first | apply Kd.R_alloc | apply Kd.R_drewN | apply Kd.R_drew)); exact HRC.out) (Kd.R_typed HRV.out) (by decide) hg); have HB7 := Aside0.mk hb; clear ho hb hg hat hbx7))
        go_roundw
        case rel => exact ⟨t + 1, by rw [wrap1 (by have := Hct.out; have := HN.out; omega)], ⟨by have := Hct.out; omega⟩, ⟨⟨_, box_put HBX7.out, Kd.R_far HRV7.out (p := ⟨Bc, 0, none⟩) (fun k hk => hk) _⟩⟩, ⟨Kd.R_set HRC7.out HBX7.out (by decide) 0 _⟩, ⟨below_set HB7.out HGX.out⟩⟩
        case measure => rw [wrap1 (by have := Hct.out; have := HN.out; omega)]; have := Hct.out; simp [intOf]; omega
      | false =>
        rw [hb] at hbit
        rw [hb, if_neg (by decide)] at hsu
        have HSU := Aside0.mk hsu
        clear ct htn hsu hb hbx hcl
        go_wp2
        go_roundw
        case rel => exact ⟨t + 1, by rw [wrap1 (by have := Hct.out; have := HN.out; omega)], ⟨by have := Hct.out; omega⟩, ⟨⟨vc, HBX.out, by rw [HSU.out]; exact HRV.out⟩⟩, HRC, HB⟩
        case measure => rw [wrap1 (by have := Hct.out; have := HN.out; omega)]; have := Hct.out; simp [intOf]; omega
    · have c1b : decide ((t : Int) < ((colsOf n ls).length : Int)) = false := decide_eq_false ct
      have c1c : decide (t < n) = false := decide_eq_false (by omega)
      have c1d : decide (t < (colsOf n ls).length) = false := decide_eq_false (by omega)
      have he : n = t := by have := Ht.out; omega
      subst he
      have HNV := Aside0.mk (Kd.R_away hRv (fun _ hk => hk))
      have HGV := Aside0.mk (Kd.R_lt hRv)
      clear ct hRv hbx HRC hcl
      go_wp2
      go_loopw [14, 56] (fun v14 v56 w' => ∃ i : Nat, v56 = .int .i64 (i : Int) ∧ Aside0 (i ≤ ls.length) ∧ Aside0 (w'.heap[Bc]? = some (.cells #[vc] 25 (0, 0)) ∧ Kd.R (Kd.int .i64) 3 w' w.heap.size (fun k => k ≠ Bc) vc (clL n ls o)) ∧ Aside0 (Kd.R (Kd.int .i64) 3 w' w.heap.size (fun k => k ≠ Bc ∧ some k ≠ vc.ownBlock) v14 (aloneL (ls.take i) (o.take i) (clL n ls o))) ∧ Aside0 (Below w.heap.size w w')) (fun _ v _ => ls.length - (intOf v).toNat)
      case atStart => exact ⟨0, rfl, ⟨Nat.zero_le _⟩, ⟨HBX.out, HRV.out⟩, ⟨Kd.R_nil _ _ _ _ _⟩, HB⟩
      case round =>
        clear HBX HRV HB hcell HNV HGV
        obtain ⟨i, rfl, Hi, HV, HRF, HB⟩ := hrel
        obtain ⟨hbx, hRv⟩ := HV.out
        clear HV
        have hcell : wr.cell? ⟨Bc, 0, none⟩ = some vc := (blk_cell hbx 0).trans rfl
        have HBX := Aside0.mk hbx
        have HRV := Aside0.mk hRv
        clear hbx hRv c1b c1c c1d
        by_cases ct : (i : Int) < (ls.length : Int)
        · have c1b : decide ((i : Int) < (ls.length : Int)) = true := decide_eq_true ct
          have hil : i < ls.length := by omega
          have Hct := Aside0.mk hil
          have c1c : decide (i < ls.length) = true := decide_eq_true hil
          have q1 := eq_true ct
          have q2 := eq_true hil
          have q3 := eq_true (show 0 ≤ (i : Int) by omega)
          obtain ⟨ad, A0, c0, eA, hx, hle, hok⟩ := at_L1 HR1.out (i : Int) (by omega) ct
          cases eA
          replace hx := (HB.out.cell (World.block_lt_of_cell? w _ hx)).trans hx
          rw [rdL_get ls i hil, Int.toNat_natCast] at hx
          rw [rdL_get ls i hil] at hok
          have HRW := Aside0.mk (Kd.C_below hok HB.out)
          have HRl := Aside0.mk (HRL.out ls[i] (List.getElem_mem hil))
          have hsu := aloneL_take ls o (clL n ls o) i hil (by have := HOL.out; omega)
          have hlen : (aloneL (ls.take i) (o.take i) (clL n ls o)).length ≤ 100 := by
            have := aloneL_length (ls.take i) (o.take i) (clL n ls o)
            rw [List.length_take] at this
            have := HD.out
            omega
          have HLen := Aside0.mk hlen
          have hbit : (Go.bits .and .u64 (toldN o : Int) (IntKind.u64.wrap (2 ^ min i 64)) != 0) = o[i]'(by have := HOL.out; omega) := by
            rw [← shl_form, andu_bit _ _ (toldN_lt64 (by have := HD.out; have := HOL.out; omega)) (by have := HD.out; omega), testBit_told]
            simp [List.getD_eq_getElem?_getD, show i < o.length by have := HOL.out; omega]
          have haf : aloneF (clL n ls o) (ls[i], o[i]'(by have := HOL.out; omega)) = if o[i]'(by have := HOL.out; omega) = true ∧ (leftL (clL n ls o) ls[i]).length = 1 then some ((leftL (clL n ls o) ls[i]).getD 0 0) else none := rfl
          clear hle hok hlen
          cases hb : o[i]'(by have := HOL.out; omega) with
          | true =>
            rw [hb] at hbit hsu haf
            by_cases hl : (leftL (clL n ls o) ls[i]).length = 1
            · rw [if_pos ⟨rfl, hl⟩] at haf
              rw [haf] at hsu
              have HSU := Aside0.mk (show aloneL (ls.take (i + 1)) (o.take (i + 1)) (clL n ls o) = aloneL (ls.take i) (o.take i) (clL n ls o) ++ [rd (leftL (clL n ls o) ls[i]) 0] from hsu)
              have hl1 : (((leftL (clL n ls o) ls[i]).length : Int) == 1) = true := beq_iff_eq.2 (by omega)
              have hl1' : ((leftL (clL n ls o) ls[i]).length == 1) = true := beq_iff_eq.2 (by omega)
              have HL0 := Aside0.mk (show (0 : Int) < ((leftL (clL n ls o) ls[i]).length : Int) by omega)
              have q4 := eq_true (show (0 : Int) < ((leftL (clL n ls o) ls[i]).length : Int) by omega)
              have q5 := eq_true (show 0 < (leftL (clL n ls o) ls[i]).length by omega)
              clear ct hb haf hsu hl
              go_wp2_with (first | (go_at_call 69; (refine (clone_calls A0 c0 ls[i] _ (by repeat (first | exact HRW.out | (with_reducible refine Kd.C_alloc ?_ _) | (with_reducible refine Kd.C_drewN ?_ _) | (with_reducible refine Kd.C_drew ?_))) HRl.out).mono ?_); rintro e w5 ⟨v5, rfl, hR5, hb5⟩; have HR5 := Aside0.mk hR5; have HB5 := Aside0.mk hb5; clear hR5 hb5) | (go_at_call 68; (refine (del_calls Bc (clL n ls o) vc w.heap.size (fun k => k ≠ Bc) _ ls[i] _ _ HB5.out HR5.out hcell HRV.out HRl.out).mono ?_); rintro e w6 ⟨v6, rfl, hR6, hb6⟩; obtain ⟨A6, c6, rfl, hle6, hC6⟩ := Kd.R_reads hR6; have hbx6 := (hb6.block Bc (blk_lt HBX.out)).trans HBX.out; have HBX6 := Aside0.mk hbx6; have HRV6 := Aside0.mk (Kd.R_below HRV.out hb6); have HRF6 := Aside0.mk (Kd.R_below HRF.out hb6); have HS6 := Aside0.mk hb6.size; have HB6 := Aside0.mk (below_step HB.out hb6); obtain ⟨ad6, e6, hx6⟩ := Kd.at_int hC6 0 (by omega) HL0.out; cases e6; simp only [Int.toNat_zero] at hx6; have hx6' := hx6; rw [show ad6.add 0 = ad6 by simp [Addr.add]] at hx6';  clear hR6 hb6 hle6 hC6 hbx6) | ((with_reducible refine gate_builtin (b := .append) (xs := #[.tmp 75, .tmp 79]) rfl ?_); at_builtin; refine Kd.R_append (Kd.int .i64) (w0 := w) w.heap.size rfl (.tmp 75) (.tmp 79) 25 3 (.int .i64 0) 8 rfl Tryd.underlying25 info3 rfl (by decide) (by omega) _ (aloneL (ls.take i) (o.take i) (clL n ls o)) (rd (leftL (clL n ls o) ls[i]) 0) [.int .i64 (rd (leftL (clL n ls o) ls[i]) 0)] (fun k => k ≠ Bc ∧ some k ≠ vc.ownBlock) (fun _ => False) rfl rfl ?aP (fun _ hk => hk.elim) ?aF ?aO ?aB ?aS ?aL ?_; (case aP => exact rfl); (case aB => exact (by repeat (first | (with_reducible first | exact HB6.out | apply below_alloc | apply pw_below_drewN | apply below_drew1) | exact HB6.out))); (case aF => exact (fun k hk => ⟨by have := blk_lt HBX6.out; first | omega | exact fun e => absurd hk (by rw [e]; exact Nat.not_le_of_lt this), fun e => by have := Kd.R_lt HRV6.out k e.symm; first | omega | exact absurd hk (Nat.not_le_of_lt this)⟩)); (case aO => exact (by (with_reducible repeat (first | apply Kd.R_alloc | apply Kd.R_drewN | apply Kd.R_drew)); exact HRF6.out)); (case aS => exact (below_size (by repeat (first | (with_reducible first | exact HB6.out | apply below_alloc | apply pw_below_drewN | apply below_drew1) | exact HB6.out)))); (case aL => have := HLen.out; omega); intro v7 w7 ho hb hg hat; rw [← HSU.out] at ho; have hbx7 := (hg.block Bc (blk_lt HBX6.out) (Kd.R_away HRF6.out (fun _ hk => hk.1))).trans HBX6.out; have HBX7 := Aside0.mk hbx7; have HRF7 := Aside0.mk ho; have HRV7 := Aside0.mk (R_moved HRV6.out (fun k hk => hg.block k (Kd.R_lt HRV6.out k hk) (fun e => (HRF6.out.1 k e.symm).2 hk.symm))); have HB7 := Aside0.mk hb; clear ho hb hg hat hbx7))
              go_roundw
              case rel => exact ⟨i + 1, by rw [wrap1 (by have := Hct.out; have := HD.out; omega)], ⟨by have := Hct.out; omega⟩, ⟨HBX7.out, HRV7.out⟩, HRF7, HB7⟩
              case measure => rw [wrap1 (by have := Hct.out; have := HD.out; omega)]; have := Hct.out; simp [intOf]; omega
            · rw [if_neg (fun h => hl h.2)] at haf
              rw [haf] at hsu
              have HSU := Aside0.mk (show aloneL (ls.take (i + 1)) (o.take (i + 1)) (clL n ls o) = aloneL (ls.take i) (o.take i) (clL n ls o) by rw [hsu]; simp)
              have hl1 : (((leftL (clL n ls o) ls[i]).length : Int) == 1) = false := beq_eq_false_iff_ne.2 (by omega)
              have hl1' : ((leftL (clL n ls o) ls[i]).length == 1) = false := beq_eq_false_iff_ne.2 (by omega)
              clear ct hb haf hsu hl
              go_wp2_with (first | (go_at_call 69; (refine (clone_calls A0 c0 ls[i] _ (by repeat (first | exact HRW.out | (with_reducible refine Kd.C_alloc ?_ _) | (with_reducible refine Kd.C_drewN ?_ _) | (with_reducible refine Kd.C_drew ?_))) HRl.out).mono ?_); rintro e w5 ⟨v5, rfl, hR5, hb5⟩; have HR5 := Aside0.mk hR5; have HB5 := Aside0.mk hb5; clear hR5 hb5) | (go_at_call 68; (refine (del_calls Bc (clL n ls o) vc w.heap.size (fun k => k ≠ Bc) _ ls[i] _ _ HB5.out HR5.out hcell HRV.out HRl.out).mono ?_); rintro e w6 ⟨v6, rfl, hR6, hb6⟩; obtain ⟨A6, c6, rfl, hle6, hC6⟩ := Kd.R_reads hR6; have hbx6 := (hb6.block Bc (blk_lt HBX.out)).trans HBX.out; have HBX6 := Aside0.mk hbx6; have HRV6 := Aside0.mk (Kd.R_below HRV.out hb6); have HRF6 := Aside0.mk (Kd.R_below HRF.out hb6); have HS6 := Aside0.mk hb6.size; have HB6 := Aside0.mk (below_step HB.out hb6); clear hR6 hb6 hle6 hC6 hbx6))
              go_roundw
              case rel => exact ⟨i + 1, by rw [wrap1 (by have := Hct.out; have := HD.out; omega)], ⟨by have := Hct.out; omega⟩, ⟨HBX6.out, HRV6.out⟩, ⟨by rw [HSU.out]; exact HRF6.out⟩, HB6⟩
              case measure => rw [wrap1 (by have := Hct.out; have := HD.out; omega)]; have := Hct.out; simp [intOf]; omega
          | false =>
            rw [hb] at hbit hsu haf
            rw [if_neg (fun h => by cases h.1)] at haf
            rw [haf] at hsu
            have HSU := Aside0.mk (show aloneL (ls.take (i + 1)) (o.take (i + 1)) (clL n ls o) = aloneL (ls.take i) (o.take i) (clL n ls o) by rw [hsu]; simp)
            clear ct hb haf hsu
            go_wp2_with (first | (go_at_call 69; (refine (clone_calls A0 c0 ls[i] _ (by repeat (first | exact HRW.out | (with_reducible refine Kd.C_alloc ?_ _) | (with_reducible refine Kd.C_drewN ?_ _) | (with_reducible refine Kd.C_drew ?_))) HRl.out).mono ?_); rintro e w5 ⟨v5, rfl, hR5, hb5⟩; have HR5 := Aside0.mk hR5; have HB5 := Aside0.mk hb5; clear hR5 hb5) | (go_at_call 68; (refine (del_calls Bc (clL n ls o) vc w.heap.size (fun k => k ≠ Bc) _ ls[i] _ _ HB5.out HR5.out hcell HRV.out HRl.out).mono ?_); rintro e w6 ⟨v6, rfl, hR6, hb6⟩; obtain ⟨A6, c6, rfl, hle6, hC6⟩ := Kd.R_reads hR6; have hbx6 := (hb6.block Bc (blk_lt HBX.out)).trans HBX.out; have HBX6 := Aside0.mk hbx6; have HRV6 := Aside0.mk (Kd.R_below HRV.out hb6); have HRF6 := Aside0.mk (Kd.R_below HRF.out hb6); have HS6 := Aside0.mk hb6.size; have HB6 := Aside0.mk (below_step HB.out hb6); clear hR6 hb6 hle6 hC6 hbx6))
            go_roundw
            case rel => exact ⟨i + 1, by rw [wrap1 (by have := Hct.out; have := HD.out; omega)], ⟨by have := Hct.out; omega⟩, ⟨HBX6.out, HRV6.out⟩, ⟨by rw [HSU.out]; exact HRF6.out⟩, HB6⟩
            case measure => rw [wrap1 (by have := Hct.out; have := HD.out; omega)]; have := Hct.out; simp [intOf]; omega
        · have c1b : decide ((i : Int) < (ls.length : Int)) = false := decide_eq_false ct
          have c1c : decide (i < ls.length) = false := decide_eq_false (by omega)
          have he : i = ls.length := by have := Hi.out; omega
          subst he
          have hfs : aloneL (ls.take ls.length) (o.take ls.length) (clL n ls o) = aloneL ls o (clL n ls o) := by
            rw [List.take_length, List.take_of_length_le (by have := HOL.out; omega)]
          have hRf := HRF.out
          rw [hfs] at hRf
          have HRF2 := Aside0.mk hRf
          have hlen : (aloneL ls o (clL n ls o)).length ≤ 100 := by
            have := aloneL_length ls o (clL n ls o)
            have := HD.out
            omega
          have HSo := Aside0.mk (show slices_Sort_int_int.f (aloneL ls o (clL n ls o)) = some (isort (aloneL ls o (clL n ls o))) by unfold slices_Sort_int_int.f; rw [if_pos (by omega)])
          have HCo := Aside0.mk (show slices_Compact_int_int.f (isort (aloneL ls o (clL n ls o))) = some (Lib.compact (isort (aloneL ls o (clL n ls o)))) by unfold slices_Compact_int_int.f; rw [if_pos (by rw [isort_length]; omega)])
          clear ct hfs hRf HRF hlen
          go_wp2_with (go_at_call 71; (refine (slices_Sort_int_int.calls (fun k => k ≠ Bc ∧ some k ≠ vc.ownBlock) _ _ _ w _ HB.out HRF2.out HSo.out).mono ?_); rintro e w8 ⟨rfl, hR8, hb8, hk8⟩; have hbx8 := (hk8.2 Bc (blk_lt HBX.out) (fun h => h.1 rfl)).trans HBX.out; have hc8 : w8.cell? ⟨Bc, 0, none⟩ = some vc := (blk_cell hbx8 0).trans rfl; have HRV8 := Aside0.mk (R_moved HRV.out (fun k hk => hk8.2 k (Kd.R_lt HRV.out k hk) (fun h => h.2 hk.symm))); have HBX8 := Aside0.mk hbx8; have HR8 := Aside0.mk hR8; have HB8 := Aside0.mk hb8; clear hR8 hb8 hk8 hbx8)
          go_region_held3 (fun w' => w'.cell? ⟨Bc, 0, none⟩ = some vc) (first | exact hc8 | exact hc9) (first | (go_at_call 72; (refine (slices_Compact_int_int.calls _ _ _ _ w _ (by first | exact HB8.out | exact below_drew1 HB8.out) (by first | exact HR8.out | exact Kd.R_drew HR8.out) HCo.out).mono ?_); rintro e w9 ⟨v9, rfl, hR9, hb9, hk9⟩; have hbx9 := (hk9.2 Bc (blk_lt HBX8.out) (fun h => h.elim (fun h => h.1 rfl) (fun h => by have := blk_lt HBX.out; omega))).trans HBX8.out; have hc9 : w9.cell? ⟨Bc, 0, none⟩ = some vc := (blk_cell hbx9 0).trans rfl; have HRV9 := Aside0.mk (R_moved HRV8.out (fun k hk => hk9.2 k (Kd.R_lt HRV8.out k hk) (fun h => h.elim (fun h => h.2 hk.symm) (fun h => by have := Kd.R_lt HRV.out k hk; omega)))); have HR9 := Aside0.mk hR9; have HB9 := Aside0.mk hb9; clear hR9 hb9 hk9 hbx9))
          all_goals
            go_wp2
            go_ret3
            exact ⟨vc, v9, by rw [HP.out]; rfl, by rw [HP.out]; exact Kd.R_mono HRV9.out (fun _ _ => trivial), by rw [HP.out]; exact Kd.R_mono HR9.out (fun _ _ => trivial), HB9.out⟩
/-- find.Cleared, told as the printed contracts are. -/
def find_Cleared.f (a0 : Int) (l1 : List (List Int)) (l2 : List Bool) : Option (List Int × List Int × Int) := some (clrP a0 l1 l2)
theorem find_Cleared.calls (a0 : Int) (A1 : Option Addr) (c1 : Nat) (l1 : List (List Int)) (A2 : Option Addr) (c2 : Nat) (l2 : List Bool) (r1 r2 : List Int) (r3 : Int) (w : World) (hr1 : Kd.C (Kd.slice 3 (Kd.int .i64)) w A1 l1.length l1) (hc1 : l1.length ≤ c1) (hr2 : Kd.C Kd.bool w A2 l2.length l2) (hc2 : l2.length ≤ c2) (h : find_Cleared.f a0 l1 l2 = some (r1, r2, r3)) :
    Calls Tryd.prog 38 #[.int .i64 a0, .slice A1 l1.length c1, .slice A2 l2.length c2] w fun e w' => ∃ v0_ v1_ : Value, e = .returned (.tuple #[v0_, v1_, .int .i64 r3]) ∧ Kd.R (Kd.int .i64) 3 w' w.heap.size (fun _ => True) v0_ r1 ∧ Kd.R (Kd.int .i64) 3 w' w.heap.size (fun _ => True) v1_ r2 ∧ Below w.heap.size w w' := by
  have hp : clrP a0 l1 l2 = (r1, r2, r3) := by injection h
  have key : Calls Tryd.prog 38 #[.int .i64 a0, .slice A1 l1.length c1, .slice A2 l2.length c2] w (ClrPost a0 l1 l2 w) := by
    by_cases h1 : ofN a0 l1 = 0
    · by_cases h2 : l2.length = l1.length
      · obtain ⟨n, rfl⟩ := Int.eq_ofNat_of_zero_le (show 0 ≤ a0 by have := (ofN_ok h1).1; omega)
        exact clr_yes n A1 c1 l1 A2 c2 l2 w hr1 hr2 hc2 h1 h2
      · exact clr_no a0 A1 c1 l1 A2 c2 l2 w hr1 hr2 hc2 (.inr h2)
    · exact clr_no a0 A1 c1 l1 A2 c2 l2 w hr1 hr2 hc2 (.inl h1)
  refine key.mono ?_
  rintro e w' ⟨v0, v1, he, h1, h2, h3⟩
  rw [hp] at he h1 h2
  exact ⟨v0, v1, he, h1, h2, h3⟩
end Go.Proofs.YtglajokjiphafaaDoor.P

namespace Go.Proofs.YtglajokjiphafaaDoor.P
open Go.RowKit Go.Proofs.YtglajokjiphafaaDoorW.PrintWords Go.Proofs.YtglajokjiphafaaDoorW.PrintLast Go.Proofs.YtglajokjiphafaaDoorW.PrintMore
attribute [local go_sem] max2_int min2_int max_two min_two max_three min_three max_four min_four   -- for this text's walks alone
set_option linter.unusedVariables false
set_option linter.unusedSimpArgs false

/-! ### neonwrightlaw05_few: function 16 -/
def neonwrightlaw05_few.l0 : Nat → List (List Int) → Int → Option (Bool)
  | 0, _, _ => none
  | k + 1, x0, x3 => if x3 < (x0.length : Int) then (if x3 ≥ 80 then (some false) else (if 0 ≤ x3 then (if ((rd_L1 x0 x3).length : Int) > 80 then (some false) else (neonwrightlaw05_few.l0 k x0 (wrap64 (x3 + 1)))) else (none))) else (some true)
def neonwrightlaw05_few.f (k : Nat) (l0 : List (List Int)) : Option (Bool) := neonwrightlaw05_few.l0 k l0 0
theorem neonwrightlaw05_few.mono_l : ∀ k, (∀ y0 y1, LeO (neonwrightlaw05_few.l0 k y0 y1) (neonwrightlaw05_few.l0 (k + 1) y0 y1))
  | 0 => fun _ _ r h => by simp [neonwrightlaw05_few.l0] at h
  | k + 1 => by
    have ih0 := neonwrightlaw05_few.mono_l k
    · intro y0 y1
      unfold neonwrightlaw05_few.l0
      repeat' first
      | (with_reducible exact ih0 _ _)
      | (with_reducible exact LeO.refl _)
      | (with_reducible exact LeO.none _)
      | (with_reducible refine LeO.ite ?_ ?_)
      | (with_reducible refine LeO.bind ?_ (fun _ => ?_))
      | exact ih0 _ _
      | exact LeO.none _
      | refine LeO.ite ?_ ?_
      | refine LeO.bind ?_ (fun _ => ?_)
theorem neonwrightlaw05_few.mono : ∀ a0 k, LeO (neonwrightlaw05_few.f k a0) (neonwrightlaw05_few.f (k + 1) a0) := by
  intro a0 k
  have ih0 := neonwrightlaw05_few.mono_l k
  unfold neonwrightlaw05_few.f
  repeat' first
      | (with_reducible exact ih0 _ _)
      | (with_reducible exact LeO.refl _)
      | (with_reducible exact LeO.none _)
      | (with_reducible refine LeO.ite ?_ ?_)
      | (with_reducible refine LeO.bind ?_ (fun _ => ?_))
      | exact ih0 _ _
      | exact LeO.none _
      | refine LeO.ite ?_ ?_
      | refine LeO.bind ?_ (fun _ => ?_)
set_option maxHeartbeats 8000000 in
set_option maxRecDepth 100000 in
theorem neonwrightlaw05_few.calls (k : Nat) (A0 : Option Addr) (c0 : Nat) (l0 : List (List Int)) (r : Bool) (w : World) (hr0 : Kd.C (Kd.slice 3 (Kd.int .i64)) w A0 l0.length l0) (hc0 : l0.length ≤ c0) (h : neonwrightlaw05_few.f k l0 = some r) :
    Calls Tryd.prog 16 #[.slice A0 l0.length c0] w fun e w' => e = .returned (.bool r) ∧ Drawn0 w w' := by
  have HR0 := Aside0.mk hr0
  have HC0 := Aside0.mk hc0
  clear hr0 hc0
  have H : (neonwrightlaw05_few.l0 k l0 0) = some r := h
  clear h
  have H' := Aside0.mk H
  clear H
  go_enter Tryd.func16, Tryd.ntmps16
  go_wp2
  go_loopg [3] k (fun kq v3 w' => ∃ (x3_1 : Int), v3 = .int .i64 x3_1 ∧ Aside0 (neonwrightlaw05_few.l0 kq l0 x3_1 = some r) ∧ Aside0 (kq ≤ k) ∧ Drawn0 w w')
  case atStart => exact ⟨(0), (by first | rfl | (simp; done) | (simp [*]; done)), H', ⟨Nat.le_refl _⟩, by repeat (first | exact Drawn0.refl _ | apply Drawn0.step)⟩
  case round =>
    clear H'
    try clear c1
    obtain ⟨x3_1, rfl, HA, HK1, ⟨m1, rfl⟩⟩ := hrel
    cases gk with
    | zero => exact absurd HA.out (by simp [neonwrightlaw05_few.l0])
    | succ k1 =>
      have H := HA.out
      clear HA
      simp only [neonwrightlaw05_few.l0] at H
      by_cases c2 : x3_1 < (l0.length : Int)
      · rw [if_pos c2] at H
        have c2b0 : decide (x3_1 < (l0.length : Int)) = true := decide_eq_true c2
        clear c2
        by_cases c3 : x3_1 ≥ 80
        · rw [if_pos c3] at H
          have c3b0 : decide (80 ≤ x3_1) = true := decide_eq_true c3
          clear c3
          obtain rfl := Option.some.inj H
          go_wp2
          go_ret
          exact ⟨by first | rfl | (simp; done) | (simp [*]; done), by repeat (first | exact Drawn0.refl _ | apply Drawn0.step)⟩
        · rw [if_neg c3] at H
          have c3b0 : decide (80 ≤ x3_1) = false := decide_eq_false c3
          clear c3
          by_cases c4 : 0 ≤ x3_1
          · rw [if_pos c4] at H
            have c4b0 : decide (0 ≤ x3_1) = true := decide_eq_true c4
            clear c4
            by_cases c5 : ((rd_L1 l0 x3_1).length : Int) > 80
            · rw [if_pos c5] at H
              have c5b0 : decide (80 < ((rd_L1 l0 x3_1).length : Int)) = true := decide_eq_true c5
              have c5b1 : decide (80 < (rd_L1 l0 x3_1).length) = true := decide_eq_true (by omega)
              clear c5
              obtain rfl := Option.some.inj H
              have p116 : 0 ≤ (x3_1 : Int) := of_decide_eq_true (by first | (with_reducible assumption) | assumption)
              have q116 : x3_1 < (l0.length : Int) := of_decide_eq_true (by first | (with_reducible assumption) | assumption)
              obtain ⟨ad116, A116_0, c116_0, e116, hx116_0, hl116_0, hi116_0⟩ := at_L1 HR0.out x3_1 p116 q116
              cases e116
              have HR116_0 := Aside0.mk hi116_0
              have HC116_0 := Aside0.mk hl116_0
              clear hi116_0 hl116_0
              replace p116 := eq_true p116
              replace q116 := eq_true q116
              go_wp2
              go_ret
              exact ⟨by first | rfl | (simp; done) | (simp [*]; done), by repeat (first | exact Drawn0.refl _ | apply Drawn0.step)⟩
            · rw [if_neg c5] at H
              have c5b0 : decide (80 < ((rd_L1 l0 x3_1).length : Int)) = false := decide_eq_false c5
              have c5b1 : decide (80 < (rd_L1 l0 x3_1).length) = false := decide_eq_false (by omega)
              clear c5
              have H' := Aside0.mk H
              clear H
              have p116 : 0 ≤ (x3_1 : Int) := of_decide_eq_true (by first | (with_reducible assumption) | assumption)
              have q116 : x3_1 < (l0.length : Int) := of_decide_eq_true (by first | (with_reducible assumption) | assumption)
              obtain ⟨ad116, A116_0, c116_0, e116, hx116_0, hl116_0, hi116_0⟩ := at_L1 HR0.out x3_1 p116 q116
              cases e116
              have HR116_0 := Aside0.mk hi116_0
              have HC116_0 := Aside0.mk hl116_0
              clear hi116_0 hl116_0
              replace p116 := eq_true p116
              replace q116 := eq_true q116
              go_wp2
              go_roundg k1
              case measure => have := HK1.out; omega
              case rel => exact ⟨(wrap64 (x3_1 + 1)), (by first | rfl | (simp; done) | (simp [*]; done)), H', ⟨by have := HK1.out; omega⟩, by repeat (first | exact Drawn0.refl _ | apply Drawn0.step)⟩
          · rw [if_neg c4] at H
            exact absurd H (by simp)
      · rw [if_neg c2] at H
        have c2b0 : decide (x3_1 < (l0.length : Int)) = false := decide_eq_false c2
        clear c2
        obtain rfl := Option.some.inj H
        go_wp2
        go_ret
        exact ⟨by first | rfl | (simp; done) | (simp [*]; done), by repeat (first | exact Drawn0.refl _ | apply Drawn0.step)⟩

end Go.Proofs.YtglajokjiphafaaDoor.P

namespace Go.Proofs.YtglajokjiphafaaDoor.P
open Go.RowKit Go.Proofs.YtglajokjiphafaaDoorW.PrintWords Go.Proofs.YtglajokjiphafaaDoorW.PrintLast Go.Proofs.YtglajokjiphafaaDoorW.PrintMore
attribute [local go_sem] max2_int min2_int max_two min_two max_three min_three max_four min_four   -- for this text's walks alone
set_option linter.unusedVariables false
set_option linter.unusedSimpArgs false

/-! ### neonwrightref05_rising: function 55 -/
def neonwrightref05_rising.l0 : Nat → List Int → Int → Int → Option (Bool)
  | 0, _, _, _ => none
  | k + 1, x0, x1, x5 => if x5 < (x0.length : Int) then (if 0 ≤ x5 then (if (rd x0 x5) < 0 then (some false) else (if (rd x0 x5) ≥ x1 then (some false) else (if x5 > 0 then (if 0 ≤ (wrap64 (x5 - 1)) then (if (wrap64 (x5 - 1)) < (x0.length : Int) then (if (rd x0 x5) ≤ (rd x0 (wrap64 (x5 - 1))) then (some false) else (neonwrightref05_rising.l0 k x0 x1 (wrap64 (x5 + 1)))) else (none)) else (none)) else (neonwrightref05_rising.l0 k x0 x1 (wrap64 (x5 + 1)))))) else (none)) else (some true)
def neonwrightref05_rising.f (k : Nat) (l0 : List Int) (a1 : Int) : Option (Bool) := neonwrightref05_rising.l0 k l0 a1 0
theorem neonwrightref05_rising.mono_l : ∀ k, (∀ y0 y1 y2, LeO (neonwrightref05_rising.l0 k y0 y1 y2) (neonwrightref05_rising.l0 (k + 1) y0 y1 y2))
  | 0 => fun _ _ _ r h => by simp [neonwrightref05_rising.l0] at h
  | k + 1 => by
    have ih0 := neonwrightref05_rising.mono_l k
    · intro y0 y1 y2
      unfold neonwrightref05_rising.l0
      repeat' first
      | (with_reducible exact ih0 _ _ _)
      | (with_reducible exact LeO.refl _)
      | (with_reducible exact LeO.none _)
      | (with_reducible refine LeO.ite ?_ ?_)
      | (with_reducible refine LeO.bind ?_ (fun _ => ?_))
      | exact ih0 _ _ _
      | exact LeO.none _
      | refine LeO.ite ?_ ?_
      | refine LeO.bind ?_ (fun _ => ?_)
theorem neonwrightref05_rising.mono : ∀ a0 a1 k, LeO (neonwrightref05_rising.f k a0 a1) (neonwrightref05_rising.f (k + 1) a0 a1) := by
  intro a0 a1 k
  have ih0 := neonwrightref05_rising.mono_l k
  unfold neonwrightref05_rising.f
  repeat' first
      | (with_reducible exact ih0 _ _ _)
      | (with_reducible exact LeO.refl _)
      | (with_reducible exact LeO.none _)
      | (with_reducible refine LeO.ite ?_ ?_)
      | (with_reducible refine LeO.bind ?_ (fun _ => ?_))
      | exact ih0 _ _ _
      | exact LeO.none _
      | refine LeO.ite ?_ ?_
      | refine LeO.bind ?_ (fun _ => ?_)
set_option maxHeartbeats 8000000 in
set_option maxRecDepth 100000 in
theorem neonwrightref05_rising.calls (k : Nat) (A0 : Option Addr) (c0 : Nat) (l0 : List Int) (a1 : Int) (r : Bool) (w : World) (hr0 : Kd.C (Kd.int .i64) w A0 l0.length l0) (hc0 : l0.length ≤ c0) (h : neonwrightref05_rising.f k l0 a1 = some r) :
    Calls Tryd.prog 55 #[.slice A0 l0.length c0, .int .i64 a1] w fun e w' => e = .returned (.bool r) ∧ Drawn0 w w' := by
  have HR0 := Aside0.mk hr0
  have HC0 := Aside0.mk hc0
  clear hr0 hc0
  have H : (neonwrightref05_rising.l0 k l0 a1 0) = some r := h
  clear h
  have H' := Aside0.mk H
  clear H
  go_enter Tryd.func55, Tryd.ntmps55
  go_wp2
  repeat (go_quiet (fail); try go_wp2)
  go_loopg [5] k (fun kq v5 w' => ∃ (x5_1 : Int), v5 = .int .i64 x5_1 ∧ Aside0 (neonwrightref05_rising.l0 kq l0 a1 x5_1 = some r) ∧ Aside0 (kq ≤ k) ∧ Drawn0 w w')
  case atStart => exact ⟨(0), (by first | rfl | (simp; done) | (simp [*]; done)), H', ⟨Nat.le_refl _⟩, by repeat (first | exact Drawn0.refl _ | apply Drawn0.step)⟩
  case round =>
    clear H'
    try clear p2
    obtain ⟨x5_1, rfl, HA, HK1, ⟨m1, rfl⟩⟩ := hrel
    cases gk with
    | zero => exact absurd HA.out (by simp [neonwrightref05_rising.l0])
    | succ k1 =>
      have H := HA.out
      clear HA
      simp only [neonwrightref05_rising.l0] at H
      by_cases c3 : x5_1 < (l0.length : Int)
      · rw [if_pos c3] at H
        have c3b0 : decide (x5_1 < (l0.length : Int)) = true := decide_eq_true c3
        clear c3
        by_cases c4 : 0 ≤ x5_1
        · rw [if_pos c4] at H
          have c4b0 : decide (0 ≤ x5_1) = true := decide_eq_true c4
          clear c4
          by_cases c5 : (rd l0 x5_1) < 0
          · rw [if_pos c5] at H
            have c5b0 : decide ((rd l0 x5_1) < 0) = true := decide_eq_true c5
            clear c5
            obtain rfl := Option.some.inj H
            have p117 : 0 ≤ (x5_1 : Int) := of_decide_eq_true (by first | (with_reducible assumption) | assumption)
            have q117 : x5_1 < (l0.length : Int) := of_decide_eq_true (by first | (with_reducible assumption) | assumption)
            obtain ⟨ad117, e117, hx117_0⟩ := Kd.at_int HR0.out x5_1 p117 q117
            cases e117
            replace p117 := eq_true p117
            replace q117 := eq_true q117
            go_wp2
            repeat (go_quiet (fail); try go_wp2)
            go_ret
            exact ⟨by first | rfl | (simp; done) | (simp [*]; done), by repeat (first | exact Drawn0.refl _ | apply Drawn0.step)⟩
          · rw [if_neg c5] at H
            have c5b0 : decide ((rd l0 x5_1) < 0) = false := decide_eq_false c5
            clear c5
            by_cases c6 : (rd l0 x5_1) ≥ a1
            · rw [if_pos c6] at H
              have c6b0 : decide (a1 ≤ (rd l0 x5_1)) = true := decide_eq_true c6
              clear c6
              obtain rfl := Option.some.inj H
              have p117 : 0 ≤ (x5_1 : Int) := of_decide_eq_true (by first | (with_reducible assumption) | assumption)
              have q117 : x5_1 < (l0.length : Int) := of_decide_eq_true (by first | (with_reducible assumption) | assumption)
              obtain ⟨ad117, e117, hx117_0⟩ := Kd.at_int HR0.out x5_1 p117 q117
              cases e117
              replace p117 := eq_true p117
              replace q117 := eq_true q117
              have p118 : 0 ≤ (x5_1 : Int) := of_decide_eq_true (by first | (with_reducible assumption) | assumption)
              have q118 : x5_1 < (l0.length : Int) := of_decide_eq_true (by first | (with_reducible assumption) | assumption)
              obtain ⟨ad118, e118, hx118_0⟩ := Kd.at_int HR0.out x5_1 p118 q118
              obtain rfl : ad117 = ad118 := (by injection e118)
              replace p118 := eq_true p118
              replace q118 := eq_true q118
              go_wp2
              repeat (go_quiet (fail); try go_wp2)
              go_ret
              exact ⟨by first | rfl | (simp; done) | (simp [*]; done), by repeat (first | exact Drawn0.refl _ | apply Drawn0.step)⟩
            · rw [if_neg c6] at H
              have c6b0 : decide (a1 ≤ (rd l0 x5_1)) = false := decide_eq_false c6
              clear c6
              by_cases c7 : x5_1 > 0
              · rw [if_pos c7] at H
                have c7b0 : decide (0 < x5_1) = true := decide_eq_true c7
                clear c7
                obtain ⟨ji8, hji8⟩ : ∃ j_ : Int, (wrap64 (x5_1 - 1)) = j_ := ⟨_, rfl⟩
                replace H : (if 0 ≤ (ji8) then (if (ji8) < (l0.length : Int) then (if (rd l0 x5_1) ≤ (rd l0 (ji8)) then (some false) else (neonwrightref05_rising.l0 k1 l0 a1 (wrap64 (x5_1 + 1)))) else (none)) else (none)) = some r := by first | (rw [hji8] at H; exact H) | (simp only [hji8] at H ⊢; exact H)
                have hji8w : (IntKind.i64.wrap (x5_1 - 1)) = ji8 := (i64_w _).trans hji8
                by_cases c9 : 0 ≤ (ji8)
                · rw [if_pos c9] at H
                  have c9b0 : decide (0 ≤ (ji8)) = true := decide_eq_true c9
                  clear c9
                  by_cases c10 : (ji8) < (l0.length : Int)
                  · rw [if_pos c10] at H
                    have c10b0 : decide ((ji8) < (l0.length : Int)) = true := decide_eq_true c10
                    clear c10
                    by_cases c11 : (rd l0 x5_1) ≤ (rd l0 (ji8))
                    · rw [if_pos c11] at H
                      have c11b0 : decide ((rd l0 x5_1) ≤ (rd l0 (ji8))) = true := decide_eq_true c11
                      clear c11
                      obtain rfl := Option.some.inj H
                      have p117 : 0 ≤ (x5_1 : Int) := of_decide_eq_true (by first | (with_reducible assumption) | assumption)
                      have q117 : x5_1 < (l0.length : Int) := of_decide_eq_true (by first | (with_reducible assumption) | assumption)
                      obtain ⟨ad117, e117, hx117_0⟩ := Kd.at_int HR0.out x5_1 p117 q117
                      cases e117
                      replace p117 := eq_true p117
                      replace q117 := eq_true q117
                      have p118 : 0 ≤ (x5_1 : Int) := of_decide_eq_true (by first | (with_reducible assumption) | assumption)
                      have q118 : x5_1 < (l0.length : Int) := of_decide_eq_true (by first | (with_reducible assumption) | assumption)
                      obtain ⟨ad118, e118, hx118_0⟩ := Kd.at_int HR0.out x5_1 p118 q118
                      obtain rfl : ad117 = ad118 := (by injection e118)
                      replace p118 := eq_true p118
                      replace q118 := eq_true q118
                      have p119 : 0 ≤ (x5_1 : Int) := of_decide_eq_true (by first | (with_reducible assumption) | assumption)
                      have q119 : x5_1 < (l0.length : Int) := of_decide_eq_true (by first | (with_reducible assumption) | assumption)
                      obtain ⟨ad119, e119, hx119_0⟩ := Kd.at_int HR0.out x5_1 p119 q119
                      obtain rfl : ad117 = ad119 := (by injection e119)
                      replace p119 := eq_true p119
                      replace q119 := eq_true q119
                      have p120 : 0 ≤ ((ji8) : Int) := of_decide_eq_true (by first | (with_reducible assumption) | assumption)
                      have q120 : (ji8) < (l0.length : Int) := of_decide_eq_true (by first | (with_reducible assumption) | assumption)
                      obtain ⟨ad120, e120, hx120_0⟩ := Kd.at_int HR0.out (ji8) p120 q120
                      obtain rfl : ad117 = ad120 := (by injection e120)
                      replace p120 := eq_true p120
                      replace q120 := eq_true q120
                      go_wp2
                      repeat (go_quiet (fail); try go_wp2)
                      go_ret
                      exact ⟨by first | rfl | (simp; done) | (simp only [← hji8] <;> (first | rfl | simp)) | (simp [*]; done), by repeat (first | exact Drawn0.refl _ | apply Drawn0.step)⟩
                    · rw [if_neg c11] at H
                      have c11b0 : decide ((rd l0 x5_1) ≤ (rd l0 (ji8))) = false := decide_eq_false c11
                      clear c11
                      have H' := Aside0.mk H
                      clear H
                      have p117 : 0 ≤ (x5_1 : Int) := of_decide_eq_true (by first | (with_reducible assumption) | assumption)
                      have q117 : x5_1 < (l0.length : Int) := of_decide_eq_true (by first | (with_reducible assumption) | assumption)
                      obtain ⟨ad117, e117, hx117_0⟩ := Kd.at_int HR0.out x5_1 p117 q117
                      cases e117
                      replace p117 := eq_true p117
                      replace q117 := eq_true q117
                      have p118 : 0 ≤ (x5_1 : Int) := of_decide_eq_true (by first | (with_reducible assumption) | assumption)
                      have q118 : x5_1 < (l0.length : Int) := of_decide_eq_true (by first | (with_reducible assumption) | assumption)
                      obtain ⟨ad118, e118, hx118_0⟩ := Kd.at_int HR0.out x5_1 p118 q118
                      obtain rfl : ad117 = ad118 := (by injection e118)
                      replace p118 := eq_true p118
                      replace q118 := eq_true q118
                      have p119 : 0 ≤ (x5_1 : Int) := of_decide_eq_true (by first | (with_reducible assumption) | assumption)
                      have q119 : x5_1 < (l0.length : Int) := of_decide_eq_true (by first | (with_reducible assumption) | assumption)
                      obtain ⟨ad119, e119, hx119_0⟩ := Kd.at_int HR0.out x5_1 p119 q119
                      obtain rfl : ad117 = ad119 := (by injection e119)
                      replace p119 := eq_true p119
                      replace q119 := eq_true q119
                      have p120 : 0 ≤ ((ji8) : Int) := of_decide_eq_true (by first | (with_reducible assumption) | assumption)
                      have q120 : (ji8) < (l0.length : Int) := of_decide_eq_true (by first | (with_reducible assumption) | assumption)
                      obtain ⟨ad120, e120, hx120_0⟩ := Kd.at_int HR0.out (ji8) p120 q120
                      obtain rfl : ad117 = ad120 := (by injection e120)
                      replace p120 := eq_true p120
                      replace q120 := eq_true q120
                      go_wp2
                      repeat (go_quiet (fail); try go_wp2)
                      go_roundg k1
                      case measure => have := HK1.out; omega
                      case rel => exact ⟨(wrap64 (x5_1 + 1)), (by first | rfl | (simp; done) | (simp [*]; done)), H', ⟨by have := HK1.out; omega⟩, by repeat (first | exact Drawn0.refl _ | apply Drawn0.step)⟩
                  · rw [if_neg c10] at H
                    exact absurd H (by simp)
                · rw [if_neg c9] at H
                  exact absurd H (by simp)
              · rw [if_neg c7] at H
                have c7b0 : decide (0 < x5_1) = false := decide_eq_false c7
                clear c7
                have H' := Aside0.mk H
                clear H
                have p117 : 0 ≤ (x5_1 : Int) := of_decide_eq_true (by first | (with_reducible assumption) | assumption)
                have q117 : x5_1 < (l0.length : Int) := of_decide_eq_true (by first | (with_reducible assumption) | assumption)
                obtain ⟨ad117, e117, hx117_0⟩ := Kd.at_int HR0.out x5_1 p117 q117
                cases e117
                replace p117 := eq_true p117
                replace q117 := eq_true q117
                have p118 : 0 ≤ (x5_1 : Int) := of_decide_eq_true (by first | (with_reducible assumption) | assumption)
                have q118 : x5_1 < (l0.length : Int) := of_decide_eq_true (by first | (with_reducible assumption) | assumption)
                obtain ⟨ad118, e118, hx118_0⟩ := Kd.at_int HR0.out x5_1 p118 q118
                obtain rfl : ad117 = ad118 := (by injection e118)
                replace p118 := eq_true p118
                replace q118 := eq_true q118
                go_wp2
                repeat (go_quiet (fail); try go_wp2)
                go_roundg k1
                case measure => have := HK1.out; omega
                case rel => exact ⟨(wrap64 (x5_1 + 1)), (by first | rfl | (simp; done) | (simp [*]; done)), H', ⟨by have := HK1.out; omega⟩, by repeat (first | exact Drawn0.refl _ | apply Drawn0.step)⟩
        · rw [if_neg c4] at H
          exact absurd H (by simp)
      · rw [if_neg c3] at H
        have c3b0 : decide (x5_1 < (l0.length : Int)) = false := decide_eq_false c3
        clear c3
        obtain rfl := Option.some.inj H
        go_wp2
        repeat (go_quiet (fail); try go_wp2)
        go_ret
        exact ⟨by first | rfl | (simp; done) | (simp [*]; done), by repeat (first | exact Drawn0.refl _ | apply Drawn0.step)⟩

end Go.Proofs.YtglajokjiphafaaDoor.P

namespace Go.Proofs.YtglajokjiphafaaDoor.P
open Go.RowKit Go.Proofs.YtglajokjiphafaaDoorW.PrintWords Go.Proofs.YtglajokjiphafaaDoorW.PrintLast Go.Proofs.YtglajokjiphafaaDoorW.PrintMore
attribute [local go_sem] max2_int min2_int max_two min_two max_three min_three max_four min_four   -- for this text's walks alone
set_option linter.unusedVariables false
set_option linter.unusedSimpArgs false

/-! ### neonwrightref05_Design: function 49 -/
mutual
def neonwrightref05_Design.j0 : Nat → Int → List (List Int) → Bool → Option (Int)
  | 0, _, _, _ => none
  | k + 1, x0, x1, x11 => if x11 = true then (some 2) else (if (x1.length : Int) > 60 then (some 3) else (neonwrightref05_Design.l0 k x0 x1 0))
def neonwrightref05_Design.l0 : Nat → Int → List (List Int) → Int → Option (Int)
  | 0, _, _, _ => none
  | k + 1, x0, x1, x5 => if x5 < (x1.length : Int) then (if 0 ≤ x5 then ((neonwrightref05_rising.f k (rd_L1 x1 x5) x0).bind fun t122 => (if t122 = true then (neonwrightref05_Design.l0 k x0 x1 (wrap64 (x5 + 1))) else (some 2))) else (none)) else (some 0)
end
def neonwrightref05_Design.f (k : Nat) (a0 : Int) (l1 : List (List Int)) : Option (Int) := if a0 < 1 then (neonwrightref05_Design.j0 k a0 l1 true) else (neonwrightref05_Design.j0 k a0 l1 (decide (a0 > 49)))
theorem neonwrightref05_Design.mono_l : ∀ k, (∀ y0 y1 y2, LeO (neonwrightref05_Design.j0 k y0 y1 y2) (neonwrightref05_Design.j0 (k + 1) y0 y1 y2)) ∧ (∀ y0 y1 y2, LeO (neonwrightref05_Design.l0 k y0 y1 y2) (neonwrightref05_Design.l0 (k + 1) y0 y1 y2))
  | 0 => ⟨fun _ _ _ r h => by simp [neonwrightref05_Design.j0] at h, fun _ _ _ r h => by simp [neonwrightref05_Design.l0] at h⟩
  | k + 1 => by
    obtain ⟨ih0, ih1⟩ := neonwrightref05_Design.mono_l k
    refine ⟨?_, ?_⟩
    · intro y0 y1 y2
      unfold neonwrightref05_Design.j0
      repeat' first
      | (with_reducible exact ih0 _ _ _)
      | (with_reducible exact ih1 _ _ _)
      | (with_reducible exact neonwrightref05_rising.mono _ _ _)
      | (with_reducible exact LeO.refl _)
      | (with_reducible exact LeO.none _)
      | (with_reducible refine LeO.ite ?_ ?_)
      | (with_reducible refine LeO.bind ?_ (fun _ => ?_))
      | exact ih0 _ _ _
      | exact ih1 _ _ _
      | exact neonwrightref05_rising.mono _ _ _
      | exact LeO.none _
      | refine LeO.ite ?_ ?_
      | refine LeO.bind ?_ (fun _ => ?_)
    · intro y0 y1 y2
      unfold neonwrightref05_Design.l0
      repeat' first
      | (with_reducible exact ih0 _ _ _)
      | (with_reducible exact ih1 _ _ _)
      | (with_reducible exact neonwrightref05_rising.mono _ _ _)
      | (with_reducible exact LeO.refl _)
      | (with_reducible exact LeO.none _)
      | (with_reducible refine LeO.ite ?_ ?_)
      | (with_reducible refine LeO.bind ?_ (fun _ => ?_))
      | exact ih0 _ _ _
      | exact ih1 _ _ _
      | exact neonwrightref05_rising.mono _ _ _
      | exact LeO.none _
      | refine LeO.ite ?_ ?_
      | refine LeO.bind ?_ (fun _ => ?_)
theorem neonwrightref05_Design.mono : ∀ a0 a1 k, LeO (neonwrightref05_Design.f k a0 a1) (neonwrightref05_Design.f (k + 1) a0 a1) := by
  intro a0 a1 k
  obtain ⟨ih0, ih1⟩ := neonwrightref05_Design.mono_l k
  unfold neonwrightref05_Design.f
  repeat' first
      | (with_reducible exact ih0 _ _ _)
      | (with_reducible exact ih1 _ _ _)
      | (with_reducible exact neonwrightref05_rising.mono _ _ _)
      | (with_reducible exact LeO.refl _)
      | (with_reducible exact LeO.none _)
      | (with_reducible refine LeO.ite ?_ ?_)
      | (with_reducible refine LeO.bind ?_ (fun _ => ?_))
      | exact ih0 _ _ _
      | exact ih1 _ _ _
      | exact neonwrightref05_rising.mono _ _ _
      | exact LeO.none _
      | refine LeO.ite ?_ ?_
      | refine LeO.bind ?_ (fun _ => ?_)
set_option maxHeartbeats 8000000 in
set_option maxRecDepth 100000 in
theorem neonwrightref05_Design.calls (k : Nat) (a0 : Int) (A1 : Option Addr) (c1 : Nat) (l1 : List (List Int)) (r : Int) (w : World) (hr1 : Kd.C (Kd.slice 3 (Kd.int .i64)) w A1 l1.length l1) (hc1 : l1.length ≤ c1) (h : neonwrightref05_Design.f k a0 l1 = some r) :
    Calls Tryd.prog 49 #[.int .i64 a0, .slice A1 l1.length c1] w fun e w' => e = .returned (.int .i64 r) ∧ Drawn0 w w' := by
  have HR1 := Aside0.mk hr1
  have HC1 := Aside0.mk hc1
  clear hr1 hc1
  have H : (if a0 < 1 then (neonwrightref05_Design.j0 k a0 l1 true) else (neonwrightref05_Design.j0 k a0 l1 (decide (a0 > 49)))) = some r := h
  clear h
  have HC3 := Aside0.mk H
  clear H
  go_enter Tryd.func49, Tryd.ntmps49
  go_upto_region 1 with (fail)
  go_cut [11] (fun v11 wc => ∃ (kq : Nat) (x11_2 : Bool), v11 = .bool x11_2 ∧ Aside0 (neonwrightref05_Design.j0 kq a0 l1 x11_2 = some r) ∧ Aside0 (kq ≤ k) ∧ Drawn0 w wc)
  case first =>
    have H := HC3.out
    clear HC3
    by_cases c4 : a0 < 1
    · rw [if_pos c4] at H
      have c4b0 : decide (a0 < 1) = true := decide_eq_true c4
      clear c4
      (first | rw [c4b0] | (simp only [i64_w, i32_w]; rw [c4b0]) | skip)
      have H' := Aside0.mk H
      clear H
      go_wp2
      go_meet
      case rel => exact ⟨_, (true), (by first | rfl | (simp; done) | (simp [*]; done)), H', ⟨by first | omega | exact Nat.le_refl _⟩, by repeat (first | exact Drawn0.refl _ | apply Drawn0.step)⟩
    · rw [if_neg c4] at H
      have c4b0 : decide (a0 < 1) = false := decide_eq_false c4
      clear c4
      (first | rw [c4b0] | (simp only [i64_w, i32_w]; rw [c4b0]) | skip)
      have H' := Aside0.mk H
      clear H
      go_wp2
      go_meet
      case rel => exact ⟨_, (decide (a0 > 49)), (by first | rfl | (simp; done) | (simp [*]; done)), H', ⟨by first | omega | exact Nat.le_refl _⟩, by repeat (first | exact Drawn0.refl _ | apply Drawn0.step)⟩
  case rest =>
    clear HC3
    try clear c1
    try clear p2
    try clear c4
    try clear c4b0
    obtain ⟨kq, x11_2, rfl, HA, HJ2, ⟨mc2, rfl⟩⟩ := hcut
    cases kq with
    | zero => exact absurd HA.out (by simp [neonwrightref05_Design.j0])
    | succ kj2 =>
      have H := HA.out
      clear HA
      simp only [neonwrightref05_Design.j0] at H
      by_cases c5 : x11_2 = true
      · subst c5
        have H1 : (some 2) = some r := by rw [if_pos rfl] at H; exact H
        clear H
        have H := H1
        clear H1
        obtain rfl := Option.some.inj H
        go_wp2
        go_ret
        exact ⟨by first | rfl | (simp; done) | (simp [*]; done), by repeat (first | exact Drawn0.refl _ | apply Drawn0.step)⟩
      · replace c5 := Bool.eq_false_iff.mpr c5
        subst c5
        have H1 : (if (l1.length : Int) > 60 then (some 3) else (neonwrightref05_Design.l0 kj2 a0 l1 0)) = some r := by rw [if_neg (show ¬ (false = true) by decide)] at H; exact H
        clear H
        have H := H1
        clear H1
        by_cases c6 : (l1.length : Int) > 60
        · rw [if_pos c6] at H
          have c6b0 : decide (60 < (l1.length : Int)) = true := decide_eq_true c6
          have c6b1 : decide (60 < l1.length) = true := decide_eq_true (by omega)
          clear c6
          obtain rfl := Option.some.inj H
          go_wp2
          go_ret
          exact ⟨by first | rfl | (simp; done) | (simp [*]; done), by repeat (first | exact Drawn0.refl _ | apply Drawn0.step)⟩
        · rw [if_neg c6] at H
          have c6b0 : decide (60 < (l1.length : Int)) = false := decide_eq_false c6
          have c6b1 : decide (60 < l1.length) = false := decide_eq_false (by omega)
          clear c6
          have H' := Aside0.mk H
          clear H
          go_wp2
          go_loopg [5] kj2 (fun kq v5 w' => ∃ (x5_2 : Int), v5 = .int .i64 x5_2 ∧ Aside0 (neonwrightref05_Design.l0 kq a0 l1 x5_2 = some r) ∧ Aside0 (kq ≤ kj2) ∧ Drawn0 w w')
          case atStart => exact ⟨(0), (by first | rfl | (simp; done) | (simp [*]; done)), H', ⟨Nat.le_refl _⟩, by repeat (first | exact Drawn0.refl _ | apply Drawn0.step)⟩
          case round =>
            clear H'
            try clear c1
            try clear c2
            try clear p2
            try clear c4
            try clear c4b0
            try clear c5
            try clear c6
            try clear c6b0
            try clear c6b1
            try clear p2
            obtain ⟨x5_2, rfl, HA, HK2, ⟨m2, rfl⟩⟩ := hrel
            cases gk with
            | zero => exact absurd HA.out (by simp [neonwrightref05_Design.l0])
            | succ k2 =>
              have H := HA.out
              clear HA
              simp only [neonwrightref05_Design.l0] at H
              by_cases c7 : x5_2 < (l1.length : Int)
              · rw [if_pos c7] at H
                have c7b0 : decide (x5_2 < (l1.length : Int)) = true := decide_eq_true c7
                clear c7
                by_cases c8 : 0 ≤ x5_2
                · rw [if_pos c8] at H
                  have c8b0 : decide (0 ≤ x5_2) = true := decide_eq_true c8
                  clear c8
                  replace H := Option.bind_eq_some_iff.mp H
                  obtain ⟨t122, A90, H⟩ := H
                  replace H : (if t122 = true then (neonwrightref05_Design.l0 k2 a0 l1 (wrap64 (x5_2 + 1))) else (some 2)) = some r := H
                  have A9 := Aside0.mk A90
                  clear A90
                  by_cases c10 : t122 = true
                  · subst c10
                    have H1 : (neonwrightref05_Design.l0 k2 a0 l1 (wrap64 (x5_2 + 1))) = some r := by rw [if_pos rfl] at H; exact H
                    clear H
                    have H := H1
                    clear H1
                    have H' := Aside0.mk H
                    clear H
                    have p121 : 0 ≤ (x5_2 : Int) := of_decide_eq_true (by first | (with_reducible assumption) | assumption)
                    have q121 : x5_2 < (l1.length : Int) := of_decide_eq_true (by first | (with_reducible assumption) | assumption)
                    obtain ⟨ad121, A121_0, c121_0, e121, hx121_0, hl121_0, hi121_0⟩ := at_L1 HR1.out x5_2 p121 q121
                    cases e121
                    have HR121_0 := Aside0.mk hi121_0
                    have HC121_0 := Aside0.mk hl121_0
                    clear hi121_0 hl121_0
                    replace p121 := eq_true p121
                    replace q121 := eq_true q121
                    go_wp2_with (first | ((with_reducible refine gate_callee (f := 55) rfl ?_); refine goesL_ (some 26) rfl rfl Tryd.func55 (by kernel_rfl) rfl #[.slice A121_0 (rd_L1 l1 x5_2).length c121_0, .int .i64 a0] rfl (by (try simp only [List.map_toArray, List.map_cons, List.map_nil]); first | done | rfl | (simp only [List.length_drop, List.length_take]; rfl)) ?_; (with_reducible refine (neonwrightref05_rising.calls k2 _ _ (rd_L1 l1 x5_2) a0 true _ ?side1 ?side2 A9.out).mono ?_); (case side1 => repeat (first | exact HR121_0.out | (with_reducible refine Kd.C_alloc ?_ _) | (with_reducible refine Kd.C_drewN ?_ _) | (with_reducible refine Kd.C_drew ?_))); (case side2 => exact HC121_0.out); rintro e w' ⟨rfl, ⟨nd, rfl⟩⟩; refine ⟨_, rfl, ?_⟩))
                    go_roundg k2
                    case measure => have := HJ2.out; have := HK2.out; omega
                    case rel => exact ⟨(wrap64 (x5_2 + 1)), (by first | rfl | (simp; done) | (simp [*]; done)), H', ⟨by have := HJ2.out; have := HK2.out; omega⟩, by repeat (first | exact Drawn0.refl _ | apply Drawn0.step)⟩
                  · replace c10 := Bool.eq_false_iff.mpr c10
                    subst c10
                    have H1 : (some 2) = some r := by rw [if_neg (show ¬ (false = true) by decide)] at H; exact H
                    clear H
                    have H := H1
                    clear H1
                    obtain rfl := Option.some.inj H
                    have p121 : 0 ≤ (x5_2 : Int) := of_decide_eq_true (by first | (with_reducible assumption) | assumption)
                    have q121 : x5_2 < (l1.length : Int) := of_decide_eq_true (by first | (with_reducible assumption) | assumption)
                    obtain ⟨ad121, A121_0, c121_0, e121, hx121_0, hl121_0, hi121_0⟩ := at_L1 HR1.out x5_2 p121 q121
                    cases e121
                    have HR121_0 := Aside0.mk hi121_0
                    have HC121_0 := Aside0.mk hl121_0
                    clear hi121_0 hl121_0
                    replace p121 := eq_true p121
                    replace q121 := eq_true q121
                    go_wp2_with (first | ((with_reducible refine gate_callee (f := 55) rfl ?_); refine goesL_ (some 26) rfl rfl Tryd.func55 (by kernel_rfl) rfl #[.slice A121_0 (rd_L1 l1 x5_2).length c121_0, .int .i64 a0] rfl (by (try simp only [List.map_toArray, List.map_cons, List.map_nil]); first | done | rfl | (simp only [List.length_drop, List.length_take]; rfl)) ?_; (with_reducible refine (neonwrightref05_rising.calls k2 _ _ (rd_L1 l1 x5_2) a0 false _ ?side1 ?side2 A9.out).mono ?_); (case side1 => repeat (first | exact HR121_0.out | (with_reducible refine Kd.C_alloc ?_ _) | (with_reducible refine Kd.C_drewN ?_ _) | (with_reducible refine Kd.C_drew ?_))); (case side2 => exact HC121_0.out); rintro e w' ⟨rfl, ⟨nd, rfl⟩⟩; refine ⟨_, rfl, ?_⟩))
                    go_ret
                    exact ⟨by first | rfl | (simp; done) | (simp [*]; done), by repeat (first | exact Drawn0.refl _ | apply Drawn0.step)⟩
                · rw [if_neg c8] at H
                  exact absurd H (by simp)
              · rw [if_neg c7] at H
                have c7b0 : decide (x5_2 < (l1.length : Int)) = false := decide_eq_false c7
                clear c7
                obtain rfl := Option.some.inj H
                go_wp2
                go_ret
                exact ⟨by first | rfl | (simp; done) | (simp [*]; done), by repeat (first | exact Drawn0.refl _ | apply Drawn0.step)⟩

end Go.Proofs.YtglajokjiphafaaDoor.P

namespace Go.Proofs.YtglajokjiphafaaDoor.P
open Go.RowKit Go.Proofs.YtglajokjiphafaaDoorW.PrintWords Go.Proofs.YtglajokjiphafaaDoorW.PrintLast Go.Proofs.YtglajokjiphafaaDoorW.PrintMore
attribute [local go_sem] max2_int min2_int max_two min_two max_three min_three max_four min_four   -- for this text's walks alone
set_option linter.unusedVariables false
set_option linter.unusedSimpArgs false

/-! ### neonwrightref05_has: function 73 -/
def neonwrightref05_has.l0 : Nat → List Int → Int → Int → Option (Bool)
  | 0, _, _, _ => none
  | k + 1, x0, x1, x5 => if x5 < (x0.length : Int) then (if 0 ≤ x5 then (if (rd x0 x5) = x1 then (some true) else (neonwrightref05_has.l0 k x0 x1 (wrap64 (x5 + 1)))) else (none)) else (some false)
def neonwrightref05_has.f (k : Nat) (l0 : List Int) (a1 : Int) : Option (Bool) := neonwrightref05_has.l0 k l0 a1 0
theorem neonwrightref05_has.mono_l : ∀ k, (∀ y0 y1 y2, LeO (neonwrightref05_has.l0 k y0 y1 y2) (neonwrightref05_has.l0 (k + 1) y0 y1 y2))
  | 0 => fun _ _ _ r h => by simp [neonwrightref05_has.l0] at h
  | k + 1 => by
    have ih0 := neonwrightref05_has.mono_l k
    · intro y0 y1 y2
      unfold neonwrightref05_has.l0
      repeat' first
      | (with_reducible exact ih0 _ _ _)
      | (with_reducible exact LeO.refl _)
      | (with_reducible exact LeO.none _)
      | (with_reducible refine LeO.ite ?_ ?_)
      | (with_reducible refine LeO.bind ?_ (fun _ => ?_))
      | exact ih0 _ _ _
      | exact LeO.none _
      | refine LeO.ite ?_ ?_
      | refine LeO.bind ?_ (fun _ => ?_)
theorem neonwrightref05_has.mono : ∀ a0 a1 k, LeO (neonwrightref05_has.f k a0 a1) (neonwrightref05_has.f (k + 1) a0 a1) := by
  intro a0 a1 k
  have ih0 := neonwrightref05_has.mono_l k
  unfold neonwrightref05_has.f
  repeat' first
      | (with_reducible exact ih0 _ _ _)
      | (with_reducible exact LeO.refl _)
      | (with_reducible exact LeO.none _)
      | (with_reducible refine LeO.ite ?_ ?_)
      | (with_reducible refine LeO.bind ?_ (fun _ => ?_))
      | exact ih0 _ _ _
      | exact LeO.none _
      | refine LeO.ite ?_ ?_
      | refine LeO.bind ?_ (fun _ => ?_)
set_option maxHeartbeats 8000000 in
set_option maxRecDepth 100000 in
theorem neonwrightref05_has.calls (k : Nat) (A0 : Option Addr) (c0 : Nat) (l0 : List Int) (a1 : Int) (r : Bool) (w : World) (hr0 : Kd.C (Kd.int .i64) w A0 l0.length l0) (hc0 : l0.length ≤ c0) (h : neonwrightref05_has.f k l0 a1 = some r) :
    Calls Tryd.prog 73 #[.slice A0 l0.length c0, .int .i64 a1] w fun e w' => e = .returned (.bool r) ∧ Drawn0 w w' := by
  have HR0 := Aside0.mk hr0
  have HC0 := Aside0.mk hc0
  clear hr0 hc0
  have H : (neonwrightref05_has.l0 k l0 a1 0) = some r := h
  clear h
  have H' := Aside0.mk H
  clear H
  go_enter Tryd.func73, Tryd.ntmps73
  go_wp2
  go_loopg [5] k (fun kq v5 w' => ∃ (x5_1 : Int), v5 = .int .i64 x5_1 ∧ Aside0 (neonwrightref05_has.l0 kq l0 a1 x5_1 = some r) ∧ Aside0 (kq ≤ k) ∧ Drawn0 w w')
  case atStart => exact ⟨(0), (by first | rfl | (simp; done) | (simp [*]; done)), H', ⟨Nat.le_refl _⟩, by repeat (first | exact Drawn0.refl _ | apply Drawn0.step)⟩
  case round =>
    clear H'
    try clear p2
    obtain ⟨x5_1, rfl, HA, HK1, ⟨m1, rfl⟩⟩ := hrel
    cases gk with
    | zero => exact absurd HA.out (by simp [neonwrightref05_has.l0])
    | succ k1 =>
      have H := HA.out
      clear HA
      simp only [neonwrightref05_has.l0] at H
      by_cases c3 : x5_1 < (l0.length : Int)
      · rw [if_pos c3] at H
        have c3b0 : decide (x5_1 < (l0.length : Int)) = true := decide_eq_true c3
        clear c3
        by_cases c4 : 0 ≤ x5_1
        · rw [if_pos c4] at H
          have c4b0 : decide (0 ≤ x5_1) = true := decide_eq_true c4
          clear c4
          by_cases c5 : (rd l0 x5_1) = a1
          · rw [if_pos c5] at H
            have c5b0 : ((rd l0 x5_1) == a1) = true := beq_iff_eq.mpr c5
            have c5b1 : ((rd l0 x5_1) != a1) = false := bne_eq_false_iff_eq.mpr c5
            clear c5
            obtain rfl := Option.some.inj H
            have p139 : 0 ≤ (x5_1 : Int) := of_decide_eq_true (by first | (with_reducible assumption) | assumption)
            have q139 : x5_1 < (l0.length : Int) := of_decide_eq_true (by first | (with_reducible assumption) | assumption)
            obtain ⟨ad139, e139, hx139_0⟩ := Kd.at_int HR0.out x5_1 p139 q139
            cases e139
            replace p139 := eq_true p139
            replace q139 := eq_true q139
            go_wp2
            go_ret
            exact ⟨by first | rfl | (simp; done) | (simp [*]; done), by repeat (first | exact Drawn0.refl _ | apply Drawn0.step)⟩
          · rw [if_neg c5] at H
            have c5b0 : ((rd l0 x5_1) == a1) = false := beq_eq_false_iff_ne.mpr c5
            have c5b1 : ((rd l0 x5_1) != a1) = true := bne_iff_ne.mpr c5
            have H' := Aside0.mk H
            clear H
            have p139 : 0 ≤ (x5_1 : Int) := of_decide_eq_true (by first | (with_reducible assumption) | assumption)
            have q139 : x5_1 < (l0.length : Int) := of_decide_eq_true (by first | (with_reducible assumption) | assumption)
            obtain ⟨ad139, e139, hx139_0⟩ := Kd.at_int HR0.out x5_1 p139 q139
            cases e139
            replace p139 := eq_true p139
            replace q139 := eq_true q139
            go_wp2
            go_roundg k1
            case measure => have := HK1.out; omega
            case rel => exact ⟨(wrap64 (x5_1 + 1)), (by first | rfl | (simp; done) | (simp [*]; done)), H', ⟨by have := HK1.out; omega⟩, by repeat (first | exact Drawn0.refl _ | apply Drawn0.step)⟩
        · rw [if_neg c4] at H
          exact absurd H (by simp)
      · rw [if_neg c3] at H
        have c3b0 : decide (x5_1 < (l0.length : Int)) = false := decide_eq_false c3
        clear c3
        obtain rfl := Option.some.inj H
        go_wp2
        go_ret
        exact ⟨by first | rfl | (simp; done) | (simp [*]; done), by repeat (first | exact Drawn0.refl _ | apply Drawn0.step)⟩

end Go.Proofs.YtglajokjiphafaaDoor.P

namespace Go.Proofs.YtglajokjiphafaaDoor.P
open Go.RowKit Go.Proofs.YtglajokjiphafaaDoorW.PrintWords Go.Proofs.YtglajokjiphafaaDoorW.PrintLast Go.Proofs.YtglajokjiphafaaDoorW.PrintMore
attribute [local go_sem] max2_int min2_int max_two min_two max_three min_three max_four min_four   -- for this text's walks alone
set_option linter.unusedVariables false
set_option linter.unusedSimpArgs false

/-! ### neonwrightref05_Cleared: function 39 -/
mutual
def neonwrightref05_Cleared.l0 : Nat → Int → List (List Int) → List Bool → List Int → Int → Option (List Int × List Int × Int)
  | 0, _, _, _, _, _ => none
  | k + 1, x0, x1, x2, x10, x12 => if x12 < x0 then (neonwrightref05_Cleared.l1 k x0 x1 x2 x10 x12 0) else (neonwrightref05_Cleared.l2 k x0 x1 x2 x10 ([] : List Int) 0)
def neonwrightref05_Cleared.l1 : Nat → Int → List (List Int) → List Bool → List Int → Int → Int → Option (List Int × List Int × Int)
  | 0, _, _, _, _, _, _ => none
  | k + 1, x0, x1, x2, x10, x12, x13 => if x13 < (x1.length : Int) then (if 0 ≤ x13 then (if x13 < (x2.length : Int) then (if rdOf false x2 x13 = true then (neonwrightref05_Cleared.l1 k x0 x1 x2 x10 x12 (wrap64 (x13 + 1))) else ((neonwrightref05_has.f k (rd_L1 x1 x13) x12).bind fun t438 => (if t438 = true then (if x10.length < 17592186044416 then (neonwrightref05_Cleared.l0 k x0 x1 x2 (x10 ++ [x12]) (wrap64 (x12 + 1))) else (none)) else (neonwrightref05_Cleared.l1 k x0 x1 x2 x10 x12 (wrap64 (x13 + 1)))))) else (none)) else (none)) else (neonwrightref05_Cleared.l0 k x0 x1 x2 x10 (wrap64 (x12 + 1)))
def neonwrightref05_Cleared.l2 : Nat → Int → List (List Int) → List Bool → List Int → List Int → Int → Option (List Int × List Int × Int)
  | 0, _, _, _, _, _, _ => none
  | k + 1, x0, x1, x2, x10, x11, x14 => if x14 < x0 then (neonwrightref05_Cleared.l3 k x0 x1 x2 x10 x11 x14 false 0) else (some (x10, x11, 0))
def neonwrightref05_Cleared.l3 : Nat → Int → List (List Int) → List Bool → List Int → List Int → Int → Bool → Int → Option (List Int × List Int × Int)
  | 0, _, _, _, _, _, _, _, _ => none
  | k + 1, x0, x1, x2, x10, x11, x14, x15, x16 => if x16 < (x1.length : Int) then ((neonwrightref05_has.f k x10 x14).bind fun t442 => (neonwrightref05_Cleared.j4 k x0 x1 x2 x10 x11 x14 x15 x16 (!t442))) else (neonwrightref05_Cleared.j4 k x0 x1 x2 x10 x11 x14 x15 x16 false)
def neonwrightref05_Cleared.j4 : Nat → Int → List (List Int) → List Bool → List Int → List Int → Int → Bool → Int → Bool → Option (List Int × List Int × Int)
  | 0, _, _, _, _, _, _, _, _, _ => none
  | k + 1, x0, x1, x2, x10, x11, x14, x15, x16, x72 => if x72 = true then (neonwrightref05_Cleared.l4 k x0 x1 x2 x10 x11 x14 x15 x16 0 0) else (if x15 = true then (if x11.length < 17592186044416 then (neonwrightref05_Cleared.l2 k x0 x1 x2 x10 (x11 ++ [x14]) (wrap64 (x14 + 1))) else (none)) else (neonwrightref05_Cleared.l2 k x0 x1 x2 x10 x11 (wrap64 (x14 + 1))))
def neonwrightref05_Cleared.l4 : Nat → Int → List (List Int) → List Bool → List Int → List Int → Int → Bool → Int → Int → Int → Option (List Int × List Int × Int)
  | 0, _, _, _, _, _, _, _, _, _, _ => none
  | k + 1, x0, x1, x2, x10, x11, x14, x15, x16, x17, x18 => if 0 ≤ x16 then (if x16 < (x1.length : Int) then (if x18 < ((rd_L1 x1 x16).length : Int) then (if 0 ≤ x18 then (if (rd (rd_L1 x1 x16) x18) = x14 then (neonwrightref05_Cleared.l4 k x0 x1 x2 x10 x11 x14 x15 x16 x17 (wrap64 (x18 + 1))) else ((neonwrightref05_has.f k x10 (rd (rd_L1 x1 x16) x18)).bind fun t451 => (if t451 = true then (neonwrightref05_Cleared.l4 k x0 x1 x2 x10 x11 x14 x15 x16 x17 (wrap64 (x18 + 1))) else (neonwrightref05_Cleared.l4 k x0 x1 x2 x10 x11 x14 x15 x16 (wrap64 (x17 + 1)) (wrap64 (x18 + 1)))))) else (none)) else (if x15 = true then (neonwrightref05_Cleared.l3 k x0 x1 x2 x10 x11 x14 true (wrap64 (x16 + 1))) else (if x16 < (x2.length : Int) then (if rdOf false x2 x16 = true then ((neonwrightref05_has.f k (rd_L1 x1 x16) x14).bind fun t454 => (if t454 = true then (neonwrightref05_Cleared.l3 k x0 x1 x2 x10 x11 x14 (x17 == 0) (wrap64 (x16 + 1))) else (neonwrightref05_Cleared.l3 k x0 x1 x2 x10 x11 x14 false (wrap64 (x16 + 1))))) else (neonwrightref05_Cleared.l3 k x0 x1 x2 x10 x11 x14 false (wrap64 (x16 + 1)))) else (none)))) else (none)) else (none)
end
def neonwrightref05_Cleared.f (k : Nat) (a0 : Int) (l1 : List (List Int)) (l2 : List Bool) : Option (List Int × List Int × Int) := (neonwrightref05_Design.f k a0 l1).bind fun t435 => (if t435 = 0 then (if (l2.length : Int) = (l1.length : Int) then (neonwrightref05_Cleared.l0 k a0 l1 l2 ([] : List Int) 0) else (some (([] : List Int), ([] : List Int), 2))) else (some (([] : List Int), ([] : List Int), t435)))
theorem neonwrightref05_Cleared.mono_l : ∀ k, (∀ y0 y1 y2 y3 y4, LeO (neonwrightref05_Cleared.l0 k y0 y1 y2 y3 y4) (neonwrightref05_Cleared.l0 (k + 1) y0 y1 y2 y3 y4)) ∧ (∀ y0 y1 y2 y3 y4 y5, LeO (neonwrightref05_Cleared.l1 k y0 y1 y2 y3 y4 y5) (neonwrightref05_Cleared.l1 (k + 1) y0 y1 y2 y3 y4 y5)) ∧ (∀ y0 y1 y2 y3 y4 y5, LeO (neonwrightref05_Cleared.l2 k y0 y1 y2 y3 y4 y5) (neonwrightref05_Cleared.l2 (k + 1) y0 y1 y2 y3 y4 y5)) ∧ (∀ y0 y1 y2 y3 y4 y5 y6 y7, LeO (neonwrightref05_Cleared.l3 k y0 y1 y2 y3 y4 y5 y6 y7) (neonwrightref05_Cleared.l3 (k + 1) y0 y1 y2 y3 y4 y5 y6 y7)) ∧ (∀ y0 y1 y2 y3 y4 y5 y6 y7 y8, LeO (neonwrightref05_Cleared.j4 k y0 y1 y2 y3 y4 y5 y6 y7 y8) (neonwrightref05_Cleared.j4 (k + 1) y0 y1 y2 y3 y4 y5 y6 y7 y8)) ∧ (∀ y0 y1 y2 y3 y4 y5 y6 y7 y8 y9, LeO (neonwrightref05_Cleared.l4 k y0 y1 y2 y3 y4 y5 y6 y7 y8 y9) (neonwrightref05_Cleared.l4 (k + 1) y0 y1 y2 y3 y4 y5 y6 y7 y8 y9))
  | 0 => ⟨fun _ _ _ _ _ r h => by simp [neonwrightref05_Cleared.l0] at h, fun _ _ _ _ _ _ r h => by simp [neonwrightref05_Cleared.l1] at h, fun _ _ _ _ _ _ r h => by simp [neonwrightref05_Cleared.l2] at h, fun _ _ _ _ _ _ _ _ r h => by simp [neonwrightref05_Cleared.l3] at h, fun _ _ _ _ _ _ _ _ _ r h => by simp [neonwrightref05_Cleared.j4] at h, fun _ _ _ _ _ _ _ _ _ _ r h => by simp [neonwrightref05_Cleared.l4] at h⟩
  | k + 1 => by
    obtain ⟨ih0, ih1, ih2, ih3, ih4, ih5⟩ := neonwrightref05_Cleared.mono_l k
    refine ⟨?_, ?_, ?_, ?_, ?_, ?_⟩
    · intro y0 y1 y2 y3 y4
      unfold neonwrightref05_Cleared.l0
      repeat' first
      | (with_reducible exact ih0 _ _ _ _ _)
      | (with_reducible exact ih1 _ _ _ _ _ _)
      | (with_reducible exact ih2 _ _ _ _ _ _)
      | (with_reducible exact ih3 _ _ _ _ _ _ _ _)
      | (with_reducible exact ih4 _ _ _ _ _ _ _ _ _)
      | (with_reducible exact ih5 _ _ _ _ _ _ _ _ _ _)
      | (with_reducible exact neonwrightref05_Design.mono _ _ _)
      | (with_reducible exact neonwrightref05_has.mono _ _ _)
      | (with_reducible exact LeO.refl _)
      | (with_reducible exact LeO.none _)
      | (with_reducible refine LeO.ite ?_ ?_)
      | (with_reducible refine LeO.bind ?_ (fun _ => ?_))
      | exact ih0 _ _ _ _ _
      | exact ih1 _ _ _ _ _ _
      | exact ih2 _ _ _ _ _ _
      | exact ih3 _ _ _ _ _ _ _ _
      | exact ih4 _ _ _ _ _ _ _ _ _
      | exact ih5 _ _ _ _ _ _ _ _ _ _
      | exact neonwrightref05_Design.mono _ _ _
      | exact neonwrightref05_has.mono _ _ _
      | exact LeO.none _
      | refine LeO.ite ?_ ?_
      | refine LeO.bind ?_ (fun _ => ?_)
    · intro y0 y1 y2 y3 y4 y5
      unfold neonwrightref05_Cleared.l1
      repeat' first
      | (with_reducible exact ih0 _ _ _ _ _)
      | (with_reducible exact ih1 _ _ _ _ _ _)
      | (with_reducible exact ih2 _ _ _ _ _ _)
      | (with_reducible exact ih3 _ _ _ _ _ _ _ _)
      | (with_reducible exact ih4 _ _ _ _ _ _ _ _ _)
      | (with_reducible exact ih5 _ _ _ _ _ _ _ _ _ _)
      | (with_reducible exact neonwrightref05_Design.mono _ _ _)
      | (with_reducible exact neonwrightref05_has.mono _ _ _)
      | (with_reducible exact LeO.refl _)
      | (with_reducible exact LeO.none _)
      | (with_reducible refine LeO.ite ?_ ?_)
      | (with_reducible refine LeO.bind ?_ (fun _ => ?_))
      | exact ih0 _ _ _ _ _
      | exact ih1 _ _ _ _ _ _
      | exact ih2 _ _ _ _ _ _
      | exact ih3 _ _ _ _ _ _ _ _
      | exact ih4 _ _ _ _ _ _ _ _ _
      | exact ih5 _ _ _ _ _ _ _ _ _ _
      | exact neonwrightref05_Design.mono _ _ _
      | exact neonwrightref05_has.mono _ _ _
      | exact LeO.none _
      | refine LeO.ite ?_ ?_
      | refine LeO.bind ?_ (fun _ => ?_)
    · intro y0 y1 y2 y3 y4 y5
      unfold neonwrightref05_Cleared.l2
      repeat' first
      | (with_reducible exact ih0 _ _ _ _ _)
      | (with_reducible exact ih1 _ _ _ _ _ _)
      | (with_reducible exact ih2 _ _ _ _ _ _)
      | (with_reducible exact ih3 _ _ _ _ _ _ _ _)
      | (with_reducible exact ih4 _ _ _ _ _ _ _ _ _)
      | (with_reducible exact ih5 _ _ _ _ _ _ _ _ _ _)
      | (with_reducible exact neonwrightref05_Design.mono _ _ _)
      | (with_reducible exact neonwrightref05_has.mono _ _ _)
      | (with_reducible exact LeO.refl _)
      | (with_reducible exact LeO.none _)
      | (with_reducible refine LeO.ite ?_ ?_)
      | (with_reducible refine LeO.bind ?_ (fun _ => ?_))
      | exact ih0 _ _ _ _ _
      | exact ih1 _ _ _ _ _ _
      | exact ih2 _ _ _ _ _ _
      | exact ih3 _ _ _ _ _ _ _ _
      | exact ih4 _ _ _ _ _ _ _ _ _
      | exact ih5 _ _ _ _ _ _ _ _ _ _
      | exact neonwrightref05_Design.mono _ _ _
      | exact neonwrightref05_has.mono _ _ _
      | exact LeO.none _
      | refine LeO.ite ?_ ?_
      | refine LeO.bind ?_ (fun _ => ?_)
    · intro y0 y1 y2 y3 y4 y5 y6 y7
      unfold neonwrightref05_Cleared.l3
      repeat' first
      | (with_reducible exact ih0 _ _ _ _ _)
      | (with_reducible exact ih1 _ _ _ _ _ _)
      | (with_reducible exact ih2 _ _ _ _ _ _)
      | (with_reducible exact ih3 _ _ _ _ _ _ _ _)
      | (with_reducible exact ih4 _ _ _ _ _ _ _ _ _)
      | (with_reducible exact ih5 _ _ _ _ _ _ _ _ _ _)
      | (with_reducible exact neonwrightref05_Design.mono _ _ _)
      | (with_reducible exact neonwrightref05_has.mono _ _ _)
      | (with_reducible exact LeO.refl _)
      | (with_reducible exact LeO.none _)
      | (with_reducible refine LeO.ite ?_ ?_)
      | (with_reducible refine LeO.bind ?_ (fun _ => ?_))
      | exact ih0 _ _ _ _ _
      | exact ih1 _ _ _ _ _ _
      | exact ih2 _ _ _ _ _ _
      | exact ih3 _ _ _ _ _ _ _ _
      | exact ih4 _ _ _ _ _ _ _ _ _
      | exact ih5 _ _ _ _ _ _ _ _ _ _
      | exact neonwrightref05_Design.mono _ _ _
      | exact neonwrightref05_has.mono _ _ _
      | exact LeO.none _
      | refine LeO.ite ?_ ?_
      | refine LeO.bind ?_ (fun _ => ?_)
    · intro y0 y1 y2 y3 y4 y5 y6 y7 y8
      unfold neonwrightref05_Cleared.j4
      repeat' first
      | (with_reducible exact ih0 _ _ _ _ _)
      | (with_reducible exact ih1 _ _ _ _ _ _)
      | (with_reducible exact ih2 _ _ _ _ _ _)
      | (with_reducible exact ih3 _ _ _ _ _ _ _ _)
      | (with_reducible exact ih4 _ _ _ _ _ _ _ _ _)
      | (with_reducible exact ih5 _ _ _ _ _ _ _ _ _ _)
      | (with_reducible exact neonwrightref05_Design.mono _ _ _)
      | (with_reducible exact neonwrightref05_has.mono _ _ _)
      | (with_reducible exact LeO.refl _)
      | (with_reducible exact LeO.none _)
      | (with_reducible refine LeO.ite ?_ ?_)
      | (with_reducible refine LeO.bind ?_ (fun _ => ?_))
      | exact ih0 _ _ _ _ _
      | exact ih1 _ _ _ _ _ _
      | exact ih2 _ _ _ _ _ _
      | exact ih3 _ _ _ _ _ _ _ _
      | exact ih4 _ _ _ _ _ _ _ _ _
      | exact ih5 _ _ _ _ _ _ _ _ _ _
      | exact neonwrightref05_Design.mono _ _ _
      | exact neonwrightref05_has.mono _ _ _
      | exact LeO.none _
      | refine LeO.ite ?_ ?_
      | refine LeO.bind ?_ (fun _ => ?_)
    · intro y0 y1 y2 y3 y4 y5 y6 y7 y8 y9
      unfold neonwrightref05_Cleared.l4
      repeat' first
      | (with_reducible exact ih0 _ _ _ _ _)
      | (with_reducible exact ih1 _ _ _ _ _ _)
      | (with_reducible exact ih2 _ _ _ _ _ _)
      | (with_reducible exact ih3 _ _ _ _ _ _ _ _)
      | (with_reducible exact ih4 _ _ _ _ _ _ _ _ _)
      | (with_reducible exact ih5 _ _ _ _ _ _ _ _ _ _)
      | (with_reducible exact neonwrightref05_Design.mono _ _ _)
      | (with_reducible exact neonwrightref05_has.mono _ _ _)
      | (with_reducible exact LeO.refl _)
      | (with_reducible exact LeO.none _)
      | (with_reducible refine LeO.ite ?_ ?_)
      | (with_reducible refine LeO.bind ?_ (fun _ => ?_))
      | exact ih0 _ _ _ _ _
      | exact ih1 _ _ _ _ _ _
      | exact ih2 _ _ _ _ _ _
      | exact ih3 _ _ _ _ _ _ _ _
      | exact ih4 _ _ _ _ _ _ _ _ _
      | exact ih5 _ _ _ _ _ _ _ _ _ _
      | exact neonwrightref05_Design.mono _ _ _
      | exact neonwrightref05_has.mono _ _ _
      | exact LeO.none _
      | refine LeO.ite ?_ ?_
      | refine LeO.bind ?_ (fun _ => ?_)
theorem neonwrightref05_Cleared.mono : ∀ a0 a1 a2 k, LeO (neonwrightref05_Cleared.f k a0 a1 a2) (neonwrightref05_Cleared.f (k + 1) a0 a1 a2) := by
  intro a0 a1 a2 k
  obtain ⟨ih0, ih1, ih2, ih3, ih4, ih5⟩ := neonwrightref05_Cleared.mono_l k
  unfold neonwrightref05_Cleared.f
  repeat' first
      | (with_reducible exact ih0 _ _ _ _ _)
      | (with_reducible exact ih1 _ _ _ _ _ _)
      | (with_reducible exact ih2 _ _ _ _ _ _)
      | (with_reducible exact ih3 _ _ _ _ _ _ _ _)
      | (with_reducible exact ih4 _ _ _ _ _ _ _ _ _)
      | (with_reducible exact ih5 _ _ _ _ _ _ _ _ _ _)
      | (with_reducible exact neonwrightref05_Design.mono _ _ _)
      | (with_reducible exact neonwrightref05_has.mono _ _ _)
      | (with_reducible exact LeO.refl _)
      | (with_reducible exact LeO.none _)
      | (with_reducible refine LeO.ite ?_ ?_)
      | (with_reducible refine LeO.bind ?_ (fun _ => ?_))
      | exact ih0 _ _ _ _ _
      | exact ih1 _ _ _ _ _ _
      | exact ih2 _ _ _ _ _ _
      | exact ih3 _ _ _ _ _ _ _ _
      | exact ih4 _ _ _ _ _ _ _ _ _
      | exact ih5 _ _ _ _ _ _ _ _ _ _
      | exact neonwrightref05_Design.mono _ _ _
      | exact neonwrightref05_has.mono _ _ _
      | exact LeO.none _
      | refine LeO.ite ?_ ?_
      | refine LeO.bind ?_ (fun _ => ?_)
set_option maxHeartbeats 8000000 in
set_option maxRecDepth 100000 in
theorem neonwrightref05_Cleared.calls (k : Nat) (a0 : Int) (A1 : Option Addr) (c1 : Nat) (l1 : List (List Int)) (A2 : Option Addr) (c2 : Nat) (l2 : List Bool) (r1 : List Int) (r2 : List Int) (r3 : Int) (w : World) (hr1 : Kd.C (Kd.slice 3 (Kd.int .i64)) w A1 l1.length l1) (hc1 : l1.length ≤ c1) (hr2 : Kd.C Kd.bool w A2 l2.length l2) (hc2 : l2.length ≤ c2) (h : neonwrightref05_Cleared.f k a0 l1 l2 = some (r1, r2, r3)) :
    Calls Tryd.prog 39 #[.int .i64 a0, .slice A1 l1.length c1, .slice A2 l2.length c2] w fun e w' => ∃ v0_ v1_ : Value, e = .returned (.tuple #[v0_, v1_, .int .i64 r3]) ∧ Kd.R (Kd.int .i64) 3 w' w.heap.size (fun k_ => some k_ ≠ (v1_ : Value).ownBlock) v0_ r1 ∧ Kd.R (Kd.int .i64) 3 w' w.heap.size (fun k_ => some k_ ≠ (v0_ : Value).ownBlock) v1_ r2 ∧ Below w.heap.size w w' := by
  have HR1 := Aside0.mk hr1
  have HC1 := Aside0.mk hc1
  clear hr1 hc1
  have HR2 := Aside0.mk hr2
  have HC2 := Aside0.mk hc2
  clear hr2 hc2
  have HB := Aside0.mk (Below.refl w.heap.size w)
  have H : ((neonwrightref05_Design.f k a0 l1).bind fun t435 => (if t435 = 0 then (if (l2.length : Int) = (l1.length : Int) then (neonwrightref05_Cleared.l0 k a0 l1 l2 ([] : List Int) 0) else (some (([] : List Int), ([] : List Int), 2))) else (some (([] : List Int), ([] : List Int), t435)))) = some (r1, r2, r3) := h
  clear h
  replace H := Option.bind_eq_some_iff.mp H
  obtain ⟨t435, A40, H⟩ := H
  replace H : (if t435 = 0 then (if (l2.length : Int) = (l1.length : Int) then (neonwrightref05_Cleared.l0 k a0 l1 l2 ([] : List Int) 0) else (some (([] : List Int), ([] : List Int), 2))) else (some (([] : List Int), ([] : List Int), t435))) = some (r1, r2, r3) := H
  have A4 := Aside0.mk A40
  clear A40
  by_cases c5 : t435 = 0
  · rw [if_pos c5] at H
    have c5b0 : (t435 == 0) = true := beq_iff_eq.mpr c5
    have c5b1 : (t435 != 0) = false := bne_eq_false_iff_eq.mpr c5
    clear c5
    by_cases c6 : (l2.length : Int) = (l1.length : Int)
    · rw [if_pos c6] at H
      have c6b0 : ((l2.length : Int) == (l1.length : Int)) = true := beq_iff_eq.mpr c6
      have c6b1 : ((l2.length : Int) != (l1.length : Int)) = false := bne_eq_false_iff_eq.mpr c6
      have c6b2 : (l2.length == l1.length) = true := by first | simpa using c6 | (simp at c6 ⊢; omega)
      clear c6
      have H' := Aside0.mk H
      clear H
      go_enter Tryd.func39, Tryd.ntmps39
      go_wp2_with (first | ((with_reducible refine gate_callee (f := 49) rfl ?_); refine goesL_ (some 21) rfl rfl Tryd.func49 (by kernel_rfl) rfl #[.int .i64 a0, .slice A1 l1.length c1] rfl (by (try simp only [List.map_toArray, List.map_cons, List.map_nil]); first | done | rfl | (simp only [List.length_drop, List.length_take]; rfl)) ?_; (with_reducible refine (neonwrightref05_Design.calls k a0 _ _ l1 t435 _ ?side1 ?side2 A4.out).mono ?_); (case side1 => repeat (first | exact HR1.out | (with_reducible refine Kd.C_alloc ?_ _) | (with_reducible refine Kd.C_drewN ?_ _) | (with_reducible refine Kd.C_drew ?_))); (case side2 => exact HC1.out); rintro e w' ⟨rfl, ⟨nd, rfl⟩⟩; refine ⟨_, rfl, ?_⟩))
      go_loopg [10, 12] k (fun kq v10 v12 w' => ∃ (x10_1 : List Int) (x12_1 : Int), v12 = .int .i64 x12_1 ∧ Aside0 (neonwrightref05_Cleared.l0 kq a0 l1 l2 x10_1 x12_1 = some (r1, r2, r3)) ∧ Aside0 (kq ≤ k) ∧ Aside0 (Kd.R (Kd.int .i64) 3 w' w.heap.size (fun _ => True) v10 x10_1) ∧ Aside0 (Below w.heap.size w w'))
      case atStart => exact ⟨(([] : List Int)), (0), (by first | rfl | (simp; done) | (simp [*]; done)), H', ⟨Nat.le_refl _⟩, ⟨by first | exact Kd.R_nil _ _ _ _ _ | exact Kd.N_nil _ _ _ _ _ | exact Kd.V_nil _ _ _ _ _ | exact Kd.Q_nil _ _ _ _ _ | exact Kd.S_nil _ _ _ _ _⟩, ⟨by repeat (first | (with_reducible first | exact HB.out | apply below_alloc | apply pw_below_drewN | apply below_drew1) | exact HB.out)⟩⟩
      case round =>
        clear H'
        try clear c1
        try clear c2
        try clear p2
        try clear c3
        try clear c4
        try clear c5
        try clear c5b0
        try clear c5b1
        try clear c6
        try clear c6b0
        try clear c6b1
        try clear c6b2
        obtain ⟨x10_1, x12_1, rfl, HA, HK1, HO_10, HB⟩ := hrel
        cases gk with
        | zero => exact absurd HA.out (by simp [neonwrightref05_Cleared.l0])
        | succ k1 =>
          have H := HA.out
          clear HA
          simp only [neonwrightref05_Cleared.l0] at H
          by_cases c7 : x12_1 < a0
          · rw [if_pos c7] at H
            have c7b0 : decide (x12_1 < a0) = true := decide_eq_true c7
            clear c7
            have H' := Aside0.mk H
            clear H
            go_wp2
            go_loopg [10, 13] k1 (fun kq v10 v13 w' => ∃ (x10_2 : List Int) (x13_2 : Int), v13 = .int .i64 x13_2 ∧ Aside0 (neonwrightref05_Cleared.l1 kq a0 l1 l2 x10_2 x12_1 x13_2 = some (r1, r2, r3)) ∧ Aside0 (kq ≤ k1) ∧ Aside0 (Kd.R (Kd.int .i64) 3 w' w.heap.size (fun _ => True) v10 x10_2) ∧ Aside0 (Below w.heap.size w w'))
            case atStart => exact ⟨(x10_1), (0), (by first | rfl | (simp; done) | (simp [*]; done)), H', ⟨Nat.le_refl _⟩, ⟨by (with_reducible repeat (first | apply Kd.R_alloc | apply Kd.R_drewN | apply Kd.R_drew)); first | exact HO_10.out | exact Kd.R_mono HO_10.out (fun k_ h_ => ne_own_len h_)⟩, ⟨by repeat (first | (with_reducible first | exact HB.out | apply below_alloc | apply pw_below_drewN | apply below_drew1) | exact HB.out)⟩⟩
            case round =>
              clear H'
              try clear c1
              try clear c2
              try clear p2
              try clear c3
              try clear c4
              try clear c5
              try clear c5b0
              try clear c5b1
              try clear c6
              try clear c6b0
              try clear c6b1
              try clear c6b2
              try clear c7
              try clear c7b0
              try clear p2
              obtain ⟨x10_2, x13_2, rfl, HA, HK2, HO_10, HB⟩ := hrel
              cases gk with
              | zero => exact absurd HA.out (by simp [neonwrightref05_Cleared.l1])
              | succ k2 =>
                have H := HA.out
                clear HA
                simp only [neonwrightref05_Cleared.l1] at H
                by_cases c8 : x13_2 < (l1.length : Int)
                · rw [if_pos c8] at H
                  have c8b0 : decide (x13_2 < (l1.length : Int)) = true := decide_eq_true c8
                  clear c8
                  by_cases c9 : 0 ≤ x13_2
                  · rw [if_pos c9] at H
                    have c9b0 : decide (0 ≤ x13_2) = true := decide_eq_true c9
                    clear c9
                    by_cases c10 : x13_2 < (l2.length : Int)
                    · rw [if_pos c10] at H
                      have c10b0 : decide (x13_2 < (l2.length : Int)) = true := decide_eq_true c10
                      clear c10
                      obtain ⟨bq11, hbq11⟩ : ∃ b_ : Bool, b_ = (rdOf false l2 x13_2) := ⟨_, rfl⟩
                      replace H : (if bq11 = true then (neonwrightref05_Cleared.l1 k2 a0 l1 l2 x10_2 x12_1 (wrap64 (x13_2 + 1))) else ((neonwrightref05_has.f k2 (rd_L1 l1 x13_2) x12_1).bind fun t438 => (if t438 = true then (if x10_2.length < 17592186044416 then (neonwrightref05_Cleared.l0 k2 a0 l1 l2 (x10_2 ++ [x12_1]) (wrap64 (x12_1 + 1))) else (none)) else (neonwrightref05_Cleared.l1 k2 a0 l1 l2 x10_2 x12_1 (wrap64 (x13_2 + 1)))))) = some (r1, r2, r3) := by rw [← hbq11] at H; exact H
                      have Nbq11 := Aside0.mk hbq11
                      clear hbq11
                      by_cases c12 : bq11 = true
                      · subst c12
                        have H1 : (neonwrightref05_Cleared.l1 k2 a0 l1 l2 x10_2 x12_1 (wrap64 (x13_2 + 1))) = some (r1, r2, r3) := by rw [if_pos rfl] at H; exact H
                        clear H
                        have H := H1
                        clear H1
                        have H' := Aside0.mk H
                        clear H
                        have p436 : 0 ≤ (x13_2 : Int) := of_decide_eq_true (by first | (with_reducible assumption) | assumption)
                        have q436 : x13_2 < (l2.length : Int) := of_decide_eq_true (by first | (with_reducible assumption) | assumption)
                        obtain ⟨ad436, e436, hx436_0⟩ := Kd.at_bool HR2.out x13_2 p436 q436
                        (try rw [← Nbq11.out] at hx436_0)
                        cases e436
                        replace hx436_0 := (HB.out.cell (World.block_lt_of_cell? w _ hx436_0)).trans hx436_0
                        replace p436 := eq_true p436
                        replace q436 := eq_true q436
                        go_wp2
                        go_roundg k2
                        case measure => have := HK1.out; have := HK2.out; omega
                        case rel => exact ⟨(x10_2), (wrap64 (x13_2 + 1)), (by first | rfl | (simp; done) | (simp [*]; done)), H', ⟨by have := HK1.out; have := HK2.out; omega⟩, ⟨by (with_reducible repeat (first | apply Kd.R_alloc | apply Kd.R_drewN | apply Kd.R_drew)); first | exact HO_10.out | exact Kd.R_mono HO_10.out (fun k_ h_ => ne_own_len h_)⟩, ⟨by repeat (first | (with_reducible first | exact HB.out | apply below_alloc | apply pw_below_drewN | apply below_drew1) | exact HB.out)⟩⟩
                      · replace c12 := Bool.eq_false_iff.mpr c12
                        subst c12
                        have H1 : ((neonwrightref05_has.f k2 (rd_L1 l1 x13_2) x12_1).bind fun t438 => (if t438 = true then (if x10_2.length < 17592186044416 then (neonwrightref05_Cleared.l0 k2 a0 l1 l2 (x10_2 ++ [x12_1]) (wrap64 (x12_1 + 1))) else (none)) else (neonwrightref05_Cleared.l1 k2 a0 l1 l2 x10_2 x12_1 (wrap64 (x13_2 + 1))))) = some (r1, r2, r3) := by rw [if_neg (show ¬ (false = true) by decide)] at H; exact H
                        clear H
                        have H := H1
                        clear H1
                        replace H := Option.bind_eq_some_iff.mp H
                        obtain ⟨t438, A130, H⟩ := H
                        replace H : (if t438 = true then (if x10_2.length < 17592186044416 then (neonwrightref05_Cleared.l0 k2 a0 l1 l2 (x10_2 ++ [x12_1]) (wrap64 (x12_1 + 1))) else (none)) else (neonwrightref05_Cleared.l1 k2 a0 l1 l2 x10_2 x12_1 (wrap64 (x13_2 + 1)))) = some (r1, r2, r3) := H
                        have A13 := Aside0.mk A130
                        clear A130
                        by_cases c14 : t438 = true
                        · subst c14
                          have H1 : (if x10_2.length < 17592186044416 then (neonwrightref05_Cleared.l0 k2 a0 l1 l2 (x10_2 ++ [x12_1]) (wrap64 (x12_1 + 1))) else (none)) = some (r1, r2, r3) := by rw [if_pos rfl] at H; exact H
                          clear H
                          have H := H1
                          clear H1
                          by_cases c15 : x10_2.length < 17592186044416
                          · rw [if_pos c15] at H
                            have LMc15 := Aside0.mk c15
                            clear c15
                            obtain ⟨y439, hy439⟩ : ∃ y_ : List Int, y_ = (x10_2 ++ [x12_1]) := ⟨_, rfl⟩
                            replace H : (neonwrightref05_Cleared.l0 k2 a0 l1 l2 y439 (wrap64 (x12_1 + 1))) = some (r1, r2, r3) := by first | (rw [hy439]; with_reducible exact H) | (have H2_ := (Option.bind_some _ _).symm.trans H; rw [hy439]; with_reducible exact H2_) | (have H2_ := (Option.bind_some _ _).symm.trans H; with_reducible exact H2_) | with_reducible exact H | (rw [hy439]; exact H) | exact H
                            have Ny439 := Aside0.mk hy439
                            clear hy439
                            have H' := Aside0.mk H
                            clear H
                            have p436 : 0 ≤ (x13_2 : Int) := of_decide_eq_true (by first | (with_reducible assumption) | assumption)
                            have q436 : x13_2 < (l2.length : Int) := of_decide_eq_true (by first | (with_reducible assumption) | assumption)
                            obtain ⟨ad436, e436, hx436_0⟩ := Kd.at_bool HR2.out x13_2 p436 q436
                            (try rw [← Nbq11.out] at hx436_0)
                            cases e436
                            replace hx436_0 := (HB.out.cell (World.block_lt_of_cell? w _ hx436_0)).trans hx436_0
                            replace p436 := eq_true p436
                            replace q436 := eq_true q436
                            have p437 : 0 ≤ (x13_2 : Int) := of_decide_eq_true (by first | (with_reducible assumption) | assumption)
                            have q437 : x13_2 < (l1.length : Int) := of_decide_eq_true (by first | (with_reducible assumption) | assumption)
                            obtain ⟨ad437, A437_0, c437_0, e437, hx437_0, hl437_0, hi437_0⟩ := at_L1 HR1.out x13_2 p437 q437
                            cases e437
                            replace hx437_0 := (HB.out.cell (World.block_lt_of_cell? w _ hx437_0)).trans hx437_0
                            have HR437_0 := Aside0.mk hi437_0
                            have HC437_0 := Aside0.mk hl437_0
                            clear hi437_0 hl437_0
                            replace p437 := eq_true p437
                            replace q437 := eq_true q437
                            go_wp2_with (first | (go_at_call 73; (with_reducible refine (neonwrightref05_has.calls k2 _ _ (rd_L1 l1 x13_2) x12_1 true _ ?side1 ?side2 A13.out).mono ?_); (case side1 => repeat (first | exact (Kd.C_below HR437_0.out HB.out) | (with_reducible refine Kd.C_alloc ?_ _) | (with_reducible refine Kd.C_drewN ?_ _) | (with_reducible refine Kd.C_drew ?_))); (case side2 => exact HC437_0.out); rintro e w' ⟨rfl, ⟨nd, rfl⟩⟩) | ((with_reducible refine gate_builtin (b := .append) (xs := #[.tmp 54, .tmp 56]) rfl ?_); at_builtin; refine Kd.R_append (Kd.int .i64) (w0 := w) w.heap.size rfl (.tmp 54) (.tmp 56) 25 3 (.int .i64 0) 8 rfl Tryd.underlying25 info3 rfl (by decide) (by omega) u10 x10_2 x12_1 [.int .i64 x12_1] (fun _ => True) (fun _ => False) rfl rfl ?aP (fun _ hk => hk.elim) ?aF ?aO ?aB ?aS ?aL ?_; (case aP => exact rfl); (case aB => exact (by repeat (first | (with_reducible first | exact HB.out | apply below_alloc | apply pw_below_drewN | apply below_drew1) | exact HB.out))); (case aF => exact (fun _ _ => trivial)); (case aO => exact (by (with_reducible repeat (first | apply Kd.R_alloc | apply Kd.R_drewN | apply Kd.R_drew)); exact HO_10.out)); (case aS => exact (below_size (by repeat (first | (with_reducible first | exact HB.out | apply below_alloc | apply pw_below_drewN | apply below_drew1) | exact HB.out)))); (case aL => have := LMc15.out; omega); intro v440 w16 ho hb hg hat; rw [← Ny439.out] at ho; have n0_ := Aside0.mk (hb); have n1_ := Aside0.mk (ho); clear HB; clear HO_10; have HB := n0_; have HO441 := n1_; clear n0_ n1_; clear ho hb hg hat))
                            go_roundg k2
                            case measure => have := HK1.out; have := HK2.out; omega
                            case rel => exact ⟨(y439), (wrap64 (x12_1 + 1)), (by first | rfl | (simp; done) | (simp [*]; done)), H', ⟨by have := HK1.out; have := HK2.out; omega⟩, ⟨by (with_reducible repeat (first | apply Kd.R_alloc | apply Kd.R_drewN | apply Kd.R_drew)); first | exact HO441.out | exact Kd.R_mono HO441.out (fun k_ h_ => ne_own_len h_)⟩, ⟨by repeat (first | (with_reducible first | exact HB.out | apply below_alloc | apply pw_below_drewN | apply below_drew1) | exact HB.out)⟩⟩
                          · rw [if_neg c15] at H
                            exact absurd H (by simp)
                        · replace c14 := Bool.eq_false_iff.mpr c14
                          subst c14
                          have H1 : (neonwrightref05_Cleared.l1 k2 a0 l1 l2 x10_2 x12_1 (wrap64 (x13_2 + 1))) = some (r1, r2, r3) := by rw [if_neg (show ¬ (false = true) by decide)] at H; exact H
                          clear H
                          have H := H1
                          clear H1
                          have H' := Aside0.mk H
                          clear H
                          have p436 : 0 ≤ (x13_2 : Int) := of_decide_eq_true (by first | (with_reducible assumption) | assumption)
                          have q436 : x13_2 < (l2.length : Int) := of_decide_eq_true (by first | (with_reducible assumption) | assumption)
                          obtain ⟨ad436, e436, hx436_0⟩ := Kd.at_bool HR2.out x13_2 p436 q436
                          (try rw [← Nbq11.out] at hx436_0)
                          cases e436
                          replace hx436_0 := (HB.out.cell (World.block_lt_of_cell? w _ hx436_0)).trans hx436_0
                          replace p436 := eq_true p436
                          replace q436 := eq_true q436
                          have p437 : 0 ≤ (x13_2 : Int) := of_decide_eq_true (by first | (with_reducible assumption) | assumption)
                          have q437 : x13_2 < (l1.length : Int) := of_decide_eq_true (by first | (with_reducible assumption) | assumption)
                          obtain ⟨ad437, A437_0, c437_0, e437, hx437_0, hl437_0, hi437_0⟩ := at_L1 HR1.out x13_2 p437 q437
                          cases e437
                          replace hx437_0 := (HB.out.cell (World.block_lt_of_cell? w _ hx437_0)).trans hx437_0
                          have HR437_0 := Aside0.mk hi437_0
                          have HC437_0 := Aside0.mk hl437_0
                          clear hi437_0 hl437_0
                          replace p437 := eq_true p437
                          replace q437 := eq_true q437
                          go_wp2_with (first | (go_at_call 73; (with_reducible refine (neonwrightref05_has.calls k2 _ _ (rd_L1 l1 x13_2) x12_1 false _ ?side1 ?side2 A13.out).mono ?_); (case side1 => repeat (first | exact (Kd.C_below HR437_0.out HB.out) | (with_reducible refine Kd.C_alloc ?_ _) | (with_reducible refine Kd.C_drewN ?_ _) | (with_reducible refine Kd.C_drew ?_))); (case side2 => exact HC437_0.out); rintro e w' ⟨rfl, ⟨nd, rfl⟩⟩))
                          go_roundg k2
                          case measure => have := HK1.out; have := HK2.out; omega
                          case rel => exact ⟨(x10_2), (wrap64 (x13_2 + 1)), (by first | rfl | (simp; done) | (simp [*]; done)), H', ⟨by have := HK1.out; have := HK2.out; omega⟩, ⟨by (with_reducible repeat (first | apply Kd.R_alloc | apply Kd.R_drewN | apply Kd.R_drew)); first | exact HO_10.out | exact Kd.R_mono HO_10.out (fun k_ h_ => ne_own_len h_)⟩, ⟨by repeat (first | (with_reducible first | exact HB.out | apply below_alloc | apply pw_below_drewN | apply below_drew1) | exact HB.out)⟩⟩
                    · rw [if_neg c10] at H
                      exact absurd H (by simp)
                  · rw [if_neg c9] at H
                    exact absurd H (by simp)
                · rw [if_neg c8] at H
                  have c8b0 : decide (x13_2 < (l1.length : Int)) = false := decide_eq_false c8
                  clear c8
                  have H' := Aside0.mk H
                  clear H
                  go_wp2
                  go_roundg k2
                  case measure => have := HK1.out; have := HK2.out; omega
                  case rel => exact ⟨(x10_2), (wrap64 (x12_1 + 1)), (by first | rfl | (simp; done) | (simp [*]; done)), H', ⟨by have := HK1.out; have := HK2.out; omega⟩, ⟨by (with_reducible repeat (first | apply Kd.R_alloc | apply Kd.R_drewN | apply Kd.R_drew)); first | exact HO_10.out | exact Kd.R_mono HO_10.out (fun k_ h_ => ne_own_len h_)⟩, ⟨by repeat (first | (with_reducible first | exact HB.out | apply below_alloc | apply pw_below_drewN | apply below_drew1) | exact HB.out)⟩⟩
          · rw [if_neg c7] at H
            have c7b0 : decide (x12_1 < a0) = false := decide_eq_false c7
            clear c7
            have H' := Aside0.mk H
            clear H
            go_wp2
            go_loopg [11, 14] k1 (fun kq v11 v14 w' => ∃ (x11_2 : List Int) (x14_2 : Int), v14 = .int .i64 x14_2 ∧ Aside0 (neonwrightref05_Cleared.l2 kq a0 l1 l2 x10_1 x11_2 x14_2 = some (r1, r2, r3)) ∧ Aside0 (kq ≤ k1) ∧ Aside0 (Kd.R (Kd.int .i64) 3 w' w.heap.size (fun k_ => some k_ ≠ (v11 : Value).ownBlock) u10 x10_1) ∧ Aside0 (Kd.R (Kd.int .i64) 3 w' w.heap.size (fun k_ => some k_ ≠ (u10 : Value).ownBlock) v11 x11_2) ∧ Aside0 (Below w.heap.size w w'))
            case atStart => exact ⟨(([] : List Int)), (0), (by first | rfl | (simp; done) | (simp [*]; done)), H', ⟨Nat.le_refl _⟩, ⟨by (with_reducible repeat (first | apply Kd.R_alloc | apply Kd.R_drewN | apply Kd.R_drew)); exact Kd.R_mono HO_10.out (fun _ hk => (by simp [Value.ownBlock]))⟩, ⟨by first | exact Kd.R_nil _ _ _ _ _ | exact Kd.N_nil _ _ _ _ _ | exact Kd.V_nil _ _ _ _ _ | exact Kd.Q_nil _ _ _ _ _ | exact Kd.S_nil _ _ _ _ _⟩, ⟨by repeat (first | (with_reducible first | exact HB.out | apply below_alloc | apply pw_below_drewN | apply below_drew1) | exact HB.out)⟩⟩
            case round =>
              clear H'
              try clear c1
              try clear q1
              try clear c2
              try clear p2
              try clear c3
              try clear c4
              try clear p4
              try clear q4
              try clear hx4
              try clear c5
              try clear c5b0
              try clear c5b1
              try clear c6
              try clear c6b0
              try clear c6b1
              try clear c6b2
              try clear p6
              try clear c7
              try clear c7b0
              try clear c8
              try clear c8b0
              try clear c9
              try clear c9b0
              try clear c10
              try clear c10b0
              try clear q11
              try clear c12
              try clear c14
              try clear c15
              try clear hx436_0
              try clear hx437_0
              try clear p2
              try clear p436
              try clear p437
              try clear q436
              try clear q437
              obtain ⟨x11_2, x14_2, rfl, HA, HK2, HO_10, HO_11, HB⟩ := hrel
              cases gk with
              | zero => exact absurd HA.out (by simp [neonwrightref05_Cleared.l2])
              | succ k2 =>
                have H := HA.out
                clear HA
                simp only [neonwrightref05_Cleared.l2] at H
                by_cases c17 : x14_2 < a0
                · rw [if_pos c17] at H
                  have c17b0 : decide (x14_2 < a0) = true := decide_eq_true c17
                  clear c17
                  have H' := Aside0.mk H
                  clear H
                  go_wp2
                  go_loopg [15, 16] k2 (fun kq v15 v16 w' => ∃ (x15_3 : Bool) (x16_3 : Int), v15 = .bool x15_3 ∧ v16 = .int .i64 x16_3 ∧ Aside0 (neonwrightref05_Cleared.l3 kq a0 l1 l2 x10_1 x11_2 x14_2 x15_3 x16_3 = some (r1, r2, r3)) ∧ Aside0 (kq ≤ k2) ∧ Aside0 (Kd.R (Kd.int .i64) 3 w' w.heap.size (fun k_ => some k_ ≠ (u11 : Value).ownBlock) u10 x10_1) ∧ Aside0 (Kd.R (Kd.int .i64) 3 w' w.heap.size (fun k_ => some k_ ≠ (u10 : Value).ownBlock) u11 x11_2) ∧ Aside0 (Below w.heap.size w w'))
                  case atStart => exact ⟨(false), (0), (by first | rfl | (simp; done) | (simp [*]; done)), (by first | rfl | (simp; done) | (simp [*]; done)), H', ⟨Nat.le_refl _⟩, ⟨by (with_reducible repeat (first | apply Kd.R_alloc | apply Kd.R_drewN | apply Kd.R_drew)); first | exact HO_10.out | exact Kd.R_mono HO_10.out (fun k_ h_ => ne_own_len h_)⟩, ⟨by (with_reducible repeat (first | apply Kd.R_alloc | apply Kd.R_drewN | apply Kd.R_drew)); first | exact HO_11.out | exact Kd.R_mono HO_11.out (fun k_ h_ => ne_own_len h_)⟩, ⟨by repeat (first | (with_reducible first | exact HB.out | apply below_alloc | apply pw_below_drewN | apply below_drew1) | exact HB.out)⟩⟩
                  case round =>
                    clear H'
                    try clear c1
                    try clear q1
                    try clear c2
                    try clear p2
                    try clear c3
                    try clear c4
                    try clear p4
                    try clear q4
                    try clear hx4
                    try clear c5
                    try clear c5b0
                    try clear c5b1
                    try clear c6
                    try clear c6b0
                    try clear c6b1
                    try clear c6b2
                    try clear p6
                    try clear c7
                    try clear c7b0
                    try clear c8
                    try clear c8b0
                    try clear c9
                    try clear c9b0
                    try clear c10
                    try clear c10b0
                    try clear q11
                    try clear c12
                    try clear c14
                    try clear c15
                    try clear c17
                    try clear c17b0
                    try clear hx436_0
                    try clear hx437_0
                    try clear p2
                    try clear p4
                    try clear p436
                    try clear p437
                    try clear p6
                    try clear q1
                    try clear q11
                    try clear q4
                    try clear q436
                    try clear q437
                    obtain ⟨x15_3, x16_3, rfl, rfl, HA, HK3, HO_10, HO_11, HB⟩ := hrel
                    cases gk with
                    | zero => exact absurd HA.out (by simp [neonwrightref05_Cleared.l3])
                    | succ k3 =>
                      have H := HA.out
                      clear HA
                      simp only [neonwrightref05_Cleared.l3] at H
                      have HC18 := Aside0.mk H
                      clear H
                      go_upto_region 20 with (fail)
                      go_cut [72] (fun v72 wc => ∃ (kq : Nat) (x72_17 : Bool), v72 = .bool x72_17 ∧ Aside0 (neonwrightref05_Cleared.j4 kq a0 l1 l2 x10_1 x11_2 x14_2 x15_3 x16_3 x72_17 = some (r1, r2, r3)) ∧ Aside0 (kq ≤ k3) ∧ Aside0 (Kd.R (Kd.int .i64) 3 wc w.heap.size (fun k_ => some k_ ≠ (u11 : Value).ownBlock) u10 x10_1) ∧ Aside0 (Kd.R (Kd.int .i64) 3 wc w.heap.size (fun k_ => some k_ ≠ (u10 : Value).ownBlock) u11 x11_2) ∧ Aside0 (Below w.heap.size w wc))
                      case first =>
                        have H := HC18.out
                        clear HC18
                        by_cases c19 : x16_3 < (l1.length : Int)
                        · rw [if_pos c19] at H
                          have c19b0 : decide (x16_3 < (l1.length : Int)) = true := decide_eq_true c19
                          clear c19
                          (first | rw [c19b0] | (simp only [i64_w, i32_w]; rw [c19b0]) | skip)
                          replace H := Option.bind_eq_some_iff.mp H
                          obtain ⟨t442, A200, H⟩ := H
                          replace H : (neonwrightref05_Cleared.j4 k3 a0 l1 l2 x10_1 x11_2 x14_2 x15_3 x16_3 (!t442)) = some (r1, r2, r3) := H
                          have A20 := Aside0.mk A200
                          clear A200
                          have H' := Aside0.mk H
                          clear H
                          obtain ⟨Ao21, co21, eo21⟩ := Kd.R_slice HO_10.out
                          subst eo21
                          go_wp2_with (first | (go_at_call 73; (with_reducible refine (neonwrightref05_has.calls k3 _ _ x10_1 x14_2 t442 _ ?side1 ?side2 A20.out).mono ?_); (case side1 => repeat (first | exact (Kd.R_reads' HO_10.out).2.2 | (with_reducible refine Kd.C_alloc ?_ _) | (with_reducible refine Kd.C_drewN ?_ _) | (with_reducible refine Kd.C_drew ?_))); (case side2 => exact (Kd.R_reads' HO_10.out).2.1); rintro e w' ⟨rfl, ⟨nd, rfl⟩⟩))
                          go_meet
                          case rel => exact ⟨_, (!t442), (by first | rfl | (simp; done) | (simp [*]; done)), H', ⟨by have := HK1.out; have := HK2.out; have := HK3.out; first | omega | exact Nat.le_refl _⟩, ⟨by (with_reducible repeat (first | apply Kd.R_alloc | apply Kd.R_drewN | apply Kd.R_drew)); first | exact HO_10.out | exact Kd.R_mono HO_10.out (fun k_ h_ => ne_own_len h_)⟩, ⟨by (with_reducible repeat (first | apply Kd.R_alloc | apply Kd.R_drewN | apply Kd.R_drew)); first | exact HO_11.out | exact Kd.R_mono HO_11.out (fun k_ h_ => ne_own_len h_)⟩, ⟨by repeat (first | (with_reducible first | exact HB.out | apply below_alloc | apply pw_below_drewN | apply below_drew1) | exact HB.out)⟩⟩
                        · rw [if_neg c19] at H
                          have c19b0 : decide (x16_3 < (l1.length : Int)) = false := decide_eq_false c19
                          clear c19
                          (first | rw [c19b0] | (simp only [i64_w, i32_w]; rw [c19b0]) | skip)
                          have H' := Aside0.mk H
                          clear H
                          go_wp2
                          go_meet
                          case rel => exact ⟨_, (false), (by first | rfl | (simp; done) | (simp [*]; done)), H', ⟨by have := HK1.out; have := HK2.out; have := HK3.out; first | omega | exact Nat.le_refl _⟩, ⟨by (with_reducible repeat (first | apply Kd.R_alloc | apply Kd.R_drewN | apply Kd.R_drew)); first | exact HO_10.out | exact Kd.R_mono HO_10.out (fun k_ h_ => ne_own_len h_)⟩, ⟨by (with_reducible repeat (first | apply Kd.R_alloc | apply Kd.R_drewN | apply Kd.R_drew)); first | exact HO_11.out | exact Kd.R_mono HO_11.out (fun k_ h_ => ne_own_len h_)⟩, ⟨by repeat (first | (with_reducible first | exact HB.out | apply below_alloc | apply pw_below_drewN | apply below_drew1) | exact HB.out)⟩⟩
                      case rest =>
                        clear HC18
                        try clear c1
                        try clear q1
                        try clear c2
                        try clear p2
                        try clear c3
                        try clear c4
                        try clear p4
                        try clear q4
                        try clear hx4
                        try clear c5
                        try clear c5b0
                        try clear c5b1
                        try clear c6
                        try clear c6b0
                        try clear c6b1
                        try clear c6b2
                        try clear p6
                        try clear c7
                        try clear c7b0
                        try clear c8
                        try clear c8b0
                        try clear c9
                        try clear c9b0
                        try clear c10
                        try clear c10b0
                        try clear q11
                        try clear c12
                        try clear c14
                        try clear c15
                        try clear c17
                        try clear c17b0
                        try clear c19
                        try clear c19b0
                        try clear hx436_0
                        try clear hx437_0
                        try clear p2
                        try clear p4
                        try clear p436
                        try clear p437
                        try clear p6
                        try clear q1
                        try clear q11
                        try clear q4
                        try clear q436
                        try clear q437
                        obtain ⟨kq, x72_17, rfl, HA, HJ17, HO_10, HO_11, HB⟩ := hcut
                        cases kq with
                        | zero => exact absurd HA.out (by simp [neonwrightref05_Cleared.j4])
                        | succ kj17 =>
                          have H := HA.out
                          clear HA
                          simp only [neonwrightref05_Cleared.j4] at H
                          by_cases c22 : x72_17 = true
                          · subst c22
                            have H1 : (neonwrightref05_Cleared.l4 kj17 a0 l1 l2 x10_1 x11_2 x14_2 x15_3 x16_3 0 0) = some (r1, r2, r3) := by rw [if_pos rfl] at H; exact H
                            clear H
                            have H := H1
                            clear H1
                            have H' := Aside0.mk H
                            clear H
                            go_wp2
                            go_loopg [17, 18] kj17 (fun kq v17 v18 w' => ∃ (x17_5 : Int) (x18_5 : Int), v17 = .int .i64 x17_5 ∧ v18 = .int .i64 x18_5 ∧ Aside0 (neonwrightref05_Cleared.l4 kq a0 l1 l2 x10_1 x11_2 x14_2 x15_3 x16_3 x17_5 x18_5 = some (r1, r2, r3)) ∧ Aside0 (kq ≤ kj17) ∧ Aside0 (Kd.R (Kd.int .i64) 3 w' w.heap.size (fun k_ => some k_ ≠ (u11 : Value).ownBlock) u10 x10_1) ∧ Aside0 (Kd.R (Kd.int .i64) 3 w' w.heap.size (fun k_ => some k_ ≠ (u10 : Value).ownBlock) u11 x11_2) ∧ Aside0 (Below w.heap.size w w'))
                            case atStart => exact ⟨(0), (0), (by first | rfl | (simp; done) | (simp [*]; done)), (by first | rfl | (simp; done) | (simp [*]; done)), H', ⟨Nat.le_refl _⟩, ⟨by (with_reducible repeat (first | apply Kd.R_alloc | apply Kd.R_drewN | apply Kd.R_drew)); first | exact HO_10.out | exact Kd.R_mono HO_10.out (fun k_ h_ => ne_own_len h_)⟩, ⟨by (with_reducible repeat (first | apply Kd.R_alloc | apply Kd.R_drewN | apply Kd.R_drew)); first | exact HO_11.out | exact Kd.R_mono HO_11.out (fun k_ h_ => ne_own_len h_)⟩, ⟨by repeat (first | (with_reducible first | exact HB.out | apply below_alloc | apply pw_below_drewN | apply below_drew1) | exact HB.out)⟩⟩
                            case round =>
                              clear H'
                              try clear c1
                              try clear q1
                              try clear c2
                              try clear p2
                              try clear c3
                              try clear c4
                              try clear p4
                              try clear q4
                              try clear hx4
                              try clear c5
                              try clear c5b0
                              try clear c5b1
                              try clear c6
                              try clear c6b0
                              try clear c6b1
                              try clear c6b2
                              try clear p6
                              try clear c7
                              try clear c7b0
                              try clear c8
                              try clear c8b0
                              try clear c9
                              try clear c9b0
                              try clear c10
                              try clear c10b0
                              try clear q11
                              try clear c12
                              try clear c14
                              try clear c15
                              try clear c17
                              try clear c17b0
                              try clear c19
                              try clear c19b0
                              try clear c22
                              try clear hx436_0
                              try clear hx437_0
                              try clear p2
                              try clear p4
                              try clear p436
                              try clear p437
                              try clear p6
                              try clear q1
                              try clear q11
                              try clear q4
                              try clear q436
                              try clear q437
                              obtain ⟨x17_5, x18_5, rfl, rfl, HA, HK5, HO_10, HO_11, HB⟩ := hrel
                              cases gk with
                              | zero => exact absurd HA.out (by simp [neonwrightref05_Cleared.l4])
                              | succ k5 =>
                                have H := HA.out
                                clear HA
                                simp only [neonwrightref05_Cleared.l4] at H
                                by_cases c23 : 0 ≤ x16_3
                                · rw [if_pos c23] at H
                                  have c23b0 : decide (0 ≤ x16_3) = true := decide_eq_true c23
                                  clear c23
                                  by_cases c24 : x16_3 < (l1.length : Int)
                                  · rw [if_pos c24] at H
                                    have c24b0 : decide (x16_3 < (l1.length : Int)) = true := decide_eq_true c24
                                    clear c24
                                    by_cases c25 : x18_5 < ((rd_L1 l1 x16_3).length : Int)
                                    · rw [if_pos c25] at H
                                      have c25b0 : decide (x18_5 < ((rd_L1 l1 x16_3).length : Int)) = true := decide_eq_true c25
                                      clear c25
                                      by_cases c26 : 0 ≤ x18_5
                                      · rw [if_pos c26] at H
                                        have c26b0 : decide (0 ≤ x18_5) = true := decide_eq_true c26
                                        clear c26
                                        by_cases c27 : (rd (rd_L1 l1 x16_3) x18_5) = x14_2
                                        · rw [if_pos c27] at H
                                          have c27b0 : ((rd (rd_L1 l1 x16_3) x18_5) == x14_2) = true := beq_iff_eq.mpr c27
                                          have c27b1 : ((rd (rd_L1 l1 x16_3) x18_5) != x14_2) = false := bne_eq_false_iff_eq.mpr c27
                                          clear c27
                                          have H' := Aside0.mk H
                                          clear H
                                          have p446 : 0 ≤ (x16_3 : Int) := of_decide_eq_true (by first | (with_reducible assumption) | assumption)
                                          have q446 : x16_3 < (l1.length : Int) := of_decide_eq_true (by first | (with_reducible assumption) | assumption)
                                          obtain ⟨ad446, A446_0, c446_0, e446, hx446_0, hl446_0, hi446_0⟩ := at_L1 HR1.out x16_3 p446 q446
                                          cases e446
                                          replace hx446_0 := (HB.out.cell (World.block_lt_of_cell? w _ hx446_0)).trans hx446_0
                                          have HR446_0 := Aside0.mk hi446_0
                                          have HC446_0 := Aside0.mk hl446_0
                                          clear hi446_0 hl446_0
                                          replace p446 := eq_true p446
                                          replace q446 := eq_true q446
                                          have p447 : 0 ≤ (x16_3 : Int) := of_decide_eq_true (by first | (with_reducible assumption) | assumption)
                                          have q447 : x16_3 < (l1.length : Int) := of_decide_eq_true (by first | (with_reducible assumption) | assumption)
                                          obtain ⟨ad447, A447_0, c447_0, e447, hx447_0, hl447_0, hi447_0⟩ := at_L1 HR1.out x16_3 p447 q447
                                          obtain rfl : ad446 = ad447 := (by injection e447)
                                          replace hx447_0 := (HB.out.cell (World.block_lt_of_cell? w _ hx447_0)).trans hx447_0
                                          have HR447_0 := Aside0.mk hi447_0
                                          have HC447_0 := Aside0.mk hl447_0
                                          clear hi447_0 hl447_0
                                          replace p447 := eq_true p447
                                          replace q447 := eq_true q447
                                          have ea_ := Option.some.inj (hx446_0.symm.trans hx447_0)
                                          injection ea_ with ea_ en_ ec_
                                          subst ea_
                                          subst ec_
                                          clear en_
                                          have p448 : 0 ≤ (x18_5 : Int) := of_decide_eq_true (by first | (with_reducible assumption) | assumption)
                                          have q448 : x18_5 < ((rd_L1 l1 x16_3).length : Int) := of_decide_eq_true (by first | (with_reducible assumption) | assumption)
                                          obtain ⟨ad448, e448, hx448_0⟩ := Kd.at_int HR447_0.out x18_5 p448 q448
                                          cases e448
                                          replace hx448_0 := (HB.out.cell (World.block_lt_of_cell? w _ hx448_0)).trans hx448_0
                                          replace p448 := eq_true p448
                                          replace q448 := eq_true q448
                                          go_wp2
                                          go_roundg k5
                                          case measure => have := HK1.out; have := HK2.out; have := HK3.out; have := HJ17.out; have := HK5.out; omega
                                          case rel => exact ⟨(x17_5), (wrap64 (x18_5 + 1)), (by first | rfl | (simp; done) | (simp [*]; done)), (by first | rfl | (simp; done) | (simp [*]; done)), H', ⟨by have := HK1.out; have := HK2.out; have := HK3.out; have := HJ17.out; have := HK5.out; omega⟩, ⟨by (with_reducible repeat (first | apply Kd.R_alloc | apply Kd.R_drewN | apply Kd.R_drew)); first | exact HO_10.out | exact Kd.R_mono HO_10.out (fun k_ h_ => ne_own_len h_)⟩, ⟨by (with_reducible repeat (first | apply Kd.R_alloc | apply Kd.R_drewN | apply Kd.R_drew)); first | exact HO_11.out | exact Kd.R_mono HO_11.out (fun k_ h_ => ne_own_len h_)⟩, ⟨by repeat (first | (with_reducible first | exact HB.out | apply below_alloc | apply pw_below_drewN | apply below_drew1) | exact HB.out)⟩⟩
                                        · rw [if_neg c27] at H
                                          have c27b0 : ((rd (rd_L1 l1 x16_3) x18_5) == x14_2) = false := beq_eq_false_iff_ne.mpr c27
                                          have c27b1 : ((rd (rd_L1 l1 x16_3) x18_5) != x14_2) = true := bne_iff_ne.mpr c27
                                          replace H := Option.bind_eq_some_iff.mp H
                                          obtain ⟨t451, A280, H⟩ := H
                                          replace H : (if t451 = true then (neonwrightref05_Cleared.l4 k5 a0 l1 l2 x10_1 x11_2 x14_2 x15_3 x16_3 x17_5 (wrap64 (x18_5 + 1))) else (neonwrightref05_Cleared.l4 k5 a0 l1 l2 x10_1 x11_2 x14_2 x15_3 x16_3 (wrap64 (x17_5 + 1)) (wrap64 (x18_5 + 1)))) = some (r1, r2, r3) := H
                                          have A28 := Aside0.mk A280
                                          clear A280
                                          by_cases c29 : t451 = true
                                          · subst c29
                                            have H1 : (neonwrightref05_Cleared.l4 k5 a0 l1 l2 x10_1 x11_2 x14_2 x15_3 x16_3 x17_5 (wrap64 (x18_5 + 1))) = some (r1, r2, r3) := by rw [if_pos rfl] at H; exact H
                                            clear H
                                            have H := H1
                                            clear H1
                                            have H' := Aside0.mk H
                                            clear H
                                            have p446 : 0 ≤ (x16_3 : Int) := of_decide_eq_true (by first | (with_reducible assumption) | assumption)
                                            have q446 : x16_3 < (l1.length : Int) := of_decide_eq_true (by first | (with_reducible assumption) | assumption)
                                            obtain ⟨ad446, A446_0, c446_0, e446, hx446_0, hl446_0, hi446_0⟩ := at_L1 HR1.out x16_3 p446 q446
                                            cases e446
                                            replace hx446_0 := (HB.out.cell (World.block_lt_of_cell? w _ hx446_0)).trans hx446_0
                                            have HR446_0 := Aside0.mk hi446_0
                                            have HC446_0 := Aside0.mk hl446_0
                                            clear hi446_0 hl446_0
                                            replace p446 := eq_true p446
                                            replace q446 := eq_true q446
                                            have p447 : 0 ≤ (x16_3 : Int) := of_decide_eq_true (by first | (with_reducible assumption) | assumption)
                                            have q447 : x16_3 < (l1.length : Int) := of_decide_eq_true (by first | (with_reducible assumption) | assumption)
                                            obtain ⟨ad447, A447_0, c447_0, e447, hx447_0, hl447_0, hi447_0⟩ := at_L1 HR1.out x16_3 p447 q447
                                            obtain rfl : ad446 = ad447 := (by injection e447)
                                            replace hx447_0 := (HB.out.cell (World.block_lt_of_cell? w _ hx447_0)).trans hx447_0
                                            have HR447_0 := Aside0.mk hi447_0
                                            have HC447_0 := Aside0.mk hl447_0
                                            clear hi447_0 hl447_0
                                            replace p447 := eq_true p447
                                            replace q447 := eq_true q447
                                            have ea_ := Option.some.inj (hx446_0.symm.trans hx447_0)
                                            injection ea_ with ea_ en_ ec_
                                            subst ea_
                                            subst ec_
                                            clear en_
                                            have p448 : 0 ≤ (x18_5 : Int) := of_decide_eq_true (by first | (with_reducible assumption) | assumption)
                                            have q448 : x18_5 < ((rd_L1 l1 x16_3).length : Int) := of_decide_eq_true (by first | (with_reducible assumption) | assumption)
                                            obtain ⟨ad448, e448, hx448_0⟩ := Kd.at_int HR447_0.out x18_5 p448 q448
                                            cases e448
                                            replace hx448_0 := (HB.out.cell (World.block_lt_of_cell? w _ hx448_0)).trans hx448_0
                                            replace p448 := eq_true p448
                                            replace q448 := eq_true q448
                                            have p449 : 0 ≤ (x16_3 : Int) := of_decide_eq_true (by first | (with_reducible assumption) | assumption)
                                            have q449 : x16_3 < (l1.length : Int) := of_decide_eq_true (by first | (with_reducible assumption) | assumption)
                                            obtain ⟨ad449, A449_0, c449_0, e449, hx449_0, hl449_0, hi449_0⟩ := at_L1 HR1.out x16_3 p449 q449
                                            obtain rfl : ad446 = ad449 := (by injection e449)
                                            replace hx449_0 := (HB.out.cell (World.block_lt_of_cell? w _ hx449_0)).trans hx449_0
                                            have HR449_0 := Aside0.mk hi449_0
                                            have HC449_0 := Aside0.mk hl449_0
                                            clear hi449_0 hl449_0
                                            replace p449 := eq_true p449
                                            replace q449 := eq_true q449
                                            have ea_ := Option.some.inj (hx446_0.symm.trans hx449_0)
                                            injection ea_ with ea_ en_ ec_
                                            subst ea_
                                            subst ec_
                                            clear en_
                                            have p450 : 0 ≤ (x18_5 : Int) := of_decide_eq_true (by first | (with_reducible assumption) | assumption)
                                            have q450 : x18_5 < ((rd_L1 l1 x16_3).length : Int) := of_decide_eq_true (by first | (with_reducible assumption) | assumption)
                                            obtain ⟨ad450, e450, hx450_0⟩ := Kd.at_int HR449_0.out x18_5 p450 q450
                                            cases e450
                                            replace hx450_0 := (HB.out.cell (World.block_lt_of_cell? w _ hx450_0)).trans hx450_0
                                            replace p450 := eq_true p450
                                            replace q450 := eq_true q450
                                            obtain ⟨Ao30, co30, eo30⟩ := Kd.R_slice HO_10.out
                                            subst eo30
                                            go_wp2_with (first | (go_at_call 73; (with_reducible refine (neonwrightref05_has.calls k5 _ _ x10_1 (rd (rd_L1 l1 x16_3) x18_5) true _ ?side1 ?side2 A28.out).mono ?_); (case side1 => repeat (first | exact (Kd.R_reads' HO_10.out).2.2 | (with_reducible refine Kd.C_alloc ?_ _) | (with_reducible refine Kd.C_drewN ?_ _) | (with_reducible refine Kd.C_drew ?_))); (case side2 => exact (Kd.R_reads' HO_10.out).2.1); rintro e w' ⟨rfl, ⟨nd, rfl⟩⟩))
                                            go_roundg k5
                                            case measure => have := HK1.out; have := HK2.out; have := HK3.out; have := HJ17.out; have := HK5.out; omega
                                            case rel => exact ⟨(x17_5), (wrap64 (x18_5 + 1)), (by first | rfl | (simp; done) | (simp [*]; done)), (by first | rfl | (simp; done) | (simp [*]; done)), H', ⟨by have := HK1.out; have := HK2.out; have := HK3.out; have := HJ17.out; have := HK5.out; omega⟩, ⟨by (with_reducible repeat (first | apply Kd.R_alloc | apply Kd.R_drewN | apply Kd.R_drew)); first | exact HO_10.out | exact Kd.R_mono HO_10.out (fun k_ h_ => ne_own_len h_)⟩, ⟨by (with_reducible repeat (first | apply Kd.R_alloc | apply Kd.R_drewN | apply Kd.R_drew)); first | exact HO_11.out | exact Kd.R_mono HO_11.out (fun k_ h_ => ne_own_len h_)⟩, ⟨by repeat (first | (with_reducible first | exact HB.out | apply below_alloc | apply pw_below_drewN | apply below_drew1) | exact HB.out)⟩⟩
                                          · replace c29 := Bool.eq_false_iff.mpr c29
                                            subst c29
                                            have H1 : (neonwrightref05_Cleared.l4 k5 a0 l1 l2 x10_1 x11_2 x14_2 x15_3 x16_3 (wrap64 (x17_5 + 1)) (wrap64 (x18_5 + 1))) = some (r1, r2, r3) := by rw [if_neg (show ¬ (false = true) by decide)] at H; exact H
                                            clear H
                                            have H := H1
                                            clear H1
                                            have H' := Aside0.mk H
                                            clear H
                                            have p446 : 0 ≤ (x16_3 : Int) := of_decide_eq_true (by first | (with_reducible assumption) | assumption)
                                            have q446 : x16_3 < (l1.length : Int) := of_decide_eq_true (by first | (with_reducible assumption) | assumption)
                                            obtain ⟨ad446, A446_0, c446_0, e446, hx446_0, hl446_0, hi446_0⟩ := at_L1 HR1.out x16_3 p446 q446
                                            cases e446
                                            replace hx446_0 := (HB.out.cell (World.block_lt_of_cell? w _ hx446_0)).trans hx446_0
                                            have HR446_0 := Aside0.mk hi446_0
                                            have HC446_0 := Aside0.mk hl446_0
                                            clear hi446_0 hl446_0
                                            replace p446 := eq_true p446
                                            replace q446 := eq_true q446
                                            have p447 : 0 ≤ (x16_3 : Int) := of_decide_eq_true (by first | (with_reducible assumption) | assumption)
                                            have q447 : x16_3 < (l1.length : Int) := of_decide_eq_true (by first | (with_reducible assumption) | assumption)
                                            obtain ⟨ad447, A447_0, c447_0, e447, hx447_0, hl447_0, hi447_0⟩ := at_L1 HR1.out x16_3 p447 q447
                                            obtain rfl : ad446 = ad447 := (by injection e447)
                                            replace hx447_0 := (HB.out.cell (World.block_lt_of_cell? w _ hx447_0)).trans hx447_0
                                            have HR447_0 := Aside0.mk hi447_0
                                            have HC447_0 := Aside0.mk hl447_0
                                            clear hi447_0 hl447_0
                                            replace p447 := eq_true p447
                                            replace q447 := eq_true q447
                                            have ea_ := Option.some.inj (hx446_0.symm.trans hx447_0)
                                            injection ea_ with ea_ en_ ec_
                                            subst ea_
                                            subst ec_
                                            clear en_
                                            have p448 : 0 ≤ (x18_5 : Int) := of_decide_eq_true (by first | (with_reducible assumption) | assumption)
                                            have q448 : x18_5 < ((rd_L1 l1 x16_3).length : Int) := of_decide_eq_true (by first | (with_reducible assumption) | assumption)
                                            obtain ⟨ad448, e448, hx448_0⟩ := Kd.at_int HR447_0.out x18_5 p448 q448
                                            cases e448
                                            replace hx448_0 := (HB.out.cell (World.block_lt_of_cell? w _ hx448_0)).trans hx448_0
                                            replace p448 := eq_true p448
                                            replace q448 := eq_true q448
                                            have p449 : 0 ≤ (x16_3 : Int) := of_decide_eq_true (by first | (with_reducible assumption) | assumption)
                                            have q449 : x16_3 < (l1.length : Int) := of_decide_eq_true (by first | (with_reducible assumption) | assumption)
                                            obtain ⟨ad449, A449_0, c449_0, e449, hx449_0, hl449_0, hi449_0⟩ := at_L1 HR1.out x16_3 p449 q449
                                            obtain rfl : ad446 = ad449 := (by injection e449)
                                            replace hx449_0 := (HB.out.cell (World.block_lt_of_cell? w _ hx449_0)).trans hx449_0
                                            have HR449_0 := Aside0.mk hi449_0
                                            have HC449_0 := Aside0.mk hl449_0
                                            clear hi449_0 hl449_0
                                            replace p449 := eq_true p449
                                            replace q449 := eq_true q449
                                            have ea_ := Option.some.inj (hx446_0.symm.trans hx449_0)
                                            injection ea_ with ea_ en_ ec_
                                            subst ea_
                                            subst ec_
                                            clear en_
                                            have p450 : 0 ≤ (x18_5 : Int) := of_decide_eq_true (by first | (with_reducible assumption) | assumption)
                                            have q450 : x18_5 < ((rd_L1 l1 x16_3).length : Int) := of_decide_eq_true (by first | (with_reducible assumption) | assumption)
                                            obtain ⟨ad450, e450, hx450_0⟩ := Kd.at_int HR449_0.out x18_5 p450 q450
                                            cases e450
                                            replace hx450_0 := (HB.out.cell (World.block_lt_of_cell? w _ hx450_0)).trans hx450_0
                                            replace p450 := eq_true p450
                                            replace q450 := eq_true q450
                                            obtain ⟨Ao31, co31, eo31⟩ := Kd.R_slice HO_10.out
                                            subst eo31
                                            go_wp2_with (first | (go_at_call 73; (with_reducible refine (neonwrightref05_has.calls k5 _ _ x10_1 (rd (rd_L1 l1 x16_3) x18_5) false _ ?side1 ?side2 A28.out).mono ?_); (case side1 => repeat (first | exact (Kd.R_reads' HO_10.out).2.2 | (with_reducible refine Kd.C_alloc ?_ _) | (with_reducible refine Kd.C_drewN ?_ _) | (with_reducible refine Kd.C_drew ?_))); (case side2 => exact (Kd.R_reads' HO_10.out).2.1); rintro e w' ⟨rfl, ⟨nd, rfl⟩⟩))
                                            go_roundg k5
                                            case measure => have := HK1.out; have := HK2.out; have := HK3.out; have := HJ17.out; have := HK5.out; omega
                                            case rel => exact ⟨(wrap64 (x17_5 + 1)), (wrap64 (x18_5 + 1)), (by first | rfl | (simp; done) | (simp [*]; done)), (by first | rfl | (simp; done) | (simp [*]; done)), H', ⟨by have := HK1.out; have := HK2.out; have := HK3.out; have := HJ17.out; have := HK5.out; omega⟩, ⟨by (with_reducible repeat (first | apply Kd.R_alloc | apply Kd.R_drewN | apply Kd.R_drew)); first | exact HO_10.out | exact Kd.R_mono HO_10.out (fun k_ h_ => ne_own_len h_)⟩, ⟨by (with_reducible repeat (first | apply Kd.R_alloc | apply Kd.R_drewN | apply Kd.R_drew)); first | exact HO_11.out | exact Kd.R_mono HO_11.out (fun k_ h_ => ne_own_len h_)⟩, ⟨by repeat (first | (with_reducible first | exact HB.out | apply below_alloc | apply pw_below_drewN | apply below_drew1) | exact HB.out)⟩⟩
                                      · rw [if_neg c26] at H
                                        exact absurd H (by simp)
                                    · rw [if_neg c25] at H
                                      have c25b0 : decide (x18_5 < ((rd_L1 l1 x16_3).length : Int)) = false := decide_eq_false c25
                                      clear c25
                                      by_cases c32 : x15_3 = true
                                      · subst c32
                                        have H1 : (neonwrightref05_Cleared.l3 k5 a0 l1 l2 x10_1 x11_2 x14_2 true (wrap64 (x16_3 + 1))) = some (r1, r2, r3) := by rw [if_pos rfl] at H; exact H
                                        clear H
                                        have H := H1
                                        clear H1
                                        have H' := Aside0.mk H
                                        clear H
                                        have p446 : 0 ≤ (x16_3 : Int) := of_decide_eq_true (by first | (with_reducible assumption) | assumption)
                                        have q446 : x16_3 < (l1.length : Int) := of_decide_eq_true (by first | (with_reducible assumption) | assumption)
                                        obtain ⟨ad446, A446_0, c446_0, e446, hx446_0, hl446_0, hi446_0⟩ := at_L1 HR1.out x16_3 p446 q446
                                        cases e446
                                        replace hx446_0 := (HB.out.cell (World.block_lt_of_cell? w _ hx446_0)).trans hx446_0
                                        have HR446_0 := Aside0.mk hi446_0
                                        have HC446_0 := Aside0.mk hl446_0
                                        clear hi446_0 hl446_0
                                        replace p446 := eq_true p446
                                        replace q446 := eq_true q446
                                        go_wp2
                                        go_roundg k5
                                        case measure => have := HK1.out; have := HK2.out; have := HK3.out; have := HJ17.out; have := HK5.out; omega
                                        case rel => exact ⟨(true), (wrap64 (x16_3 + 1)), (by first | rfl | (simp; done) | (simp [*]; done)), (by first | rfl | (simp; done) | (simp [*]; done)), H', ⟨by have := HK1.out; have := HK2.out; have := HK3.out; have := HJ17.out; have := HK5.out; omega⟩, ⟨by (with_reducible repeat (first | apply Kd.R_alloc | apply Kd.R_drewN | apply Kd.R_drew)); first | exact HO_10.out | exact Kd.R_mono HO_10.out (fun k_ h_ => ne_own_len h_)⟩, ⟨by (with_reducible repeat (first | apply Kd.R_alloc | apply Kd.R_drewN | apply Kd.R_drew)); first | exact HO_11.out | exact Kd.R_mono HO_11.out (fun k_ h_ => ne_own_len h_)⟩, ⟨by repeat (first | (with_reducible first | exact HB.out | apply below_alloc | apply pw_below_drewN | apply below_drew1) | exact HB.out)⟩⟩
                                      · replace c32 := Bool.eq_false_iff.mpr c32
                                        subst c32
                                        have H1 : (if x16_3 < (l2.length : Int) then (if rdOf false l2 x16_3 = true then ((neonwrightref05_has.f k5 (rd_L1 l1 x16_3) x14_2).bind fun t454 => (if t454 = true then (neonwrightref05_Cleared.l3 k5 a0 l1 l2 x10_1 x11_2 x14_2 (x17_5 == 0) (wrap64 (x16_3 + 1))) else (neonwrightref05_Cleared.l3 k5 a0 l1 l2 x10_1 x11_2 x14_2 false (wrap64 (x16_3 + 1))))) else (neonwrightref05_Cleared.l3 k5 a0 l1 l2 x10_1 x11_2 x14_2 false (wrap64 (x16_3 + 1)))) else (none)) = some (r1, r2, r3) := by rw [if_neg (show ¬ (false = true) by decide)] at H; exact H
                                        clear H
                                        have H := H1
                                        clear H1
                                        by_cases c33 : x16_3 < (l2.length : Int)
                                        · rw [if_pos c33] at H
                                          have c33b0 : decide (x16_3 < (l2.length : Int)) = true := decide_eq_true c33
                                          clear c33
                                          obtain ⟨bq34, hbq34⟩ : ∃ b_ : Bool, b_ = (rdOf false l2 x16_3) := ⟨_, rfl⟩
                                          replace H : (if bq34 = true then ((neonwrightref05_has.f k5 (rd_L1 l1 x16_3) x14_2).bind fun t454 => (if t454 = true then (neonwrightref05_Cleared.l3 k5 a0 l1 l2 x10_1 x11_2 x14_2 (x17_5 == 0) (wrap64 (x16_3 + 1))) else (neonwrightref05_Cleared.l3 k5 a0 l1 l2 x10_1 x11_2 x14_2 false (wrap64 (x16_3 + 1))))) else (neonwrightref05_Cleared.l3 k5 a0 l1 l2 x10_1 x11_2 x14_2 false (wrap64 (x16_3 + 1)))) = some (r1, r2, r3) := by rw [← hbq34] at H; exact H
                                          have Nbq34 := Aside0.mk hbq34
                                          clear hbq34
                                          by_cases c35 : bq34 = true
                                          · subst c35
                                            have H1 : ((neonwrightref05_has.f k5 (rd_L1 l1 x16_3) x14_2).bind fun t454 => (if t454 = true then (neonwrightref05_Cleared.l3 k5 a0 l1 l2 x10_1 x11_2 x14_2 (x17_5 == 0) (wrap64 (x16_3 + 1))) else (neonwrightref05_Cleared.l3 k5 a0 l1 l2 x10_1 x11_2 x14_2 false (wrap64 (x16_3 + 1))))) = some (r1, r2, r3) := by rw [if_pos rfl] at H; exact H
                                            clear H
                                            have H := H1
                                            clear H1
                                            replace H := Option.bind_eq_some_iff.mp H
                                            obtain ⟨t454, A360, H⟩ := H
                                            replace H : (if t454 = true then (neonwrightref05_Cleared.l3 k5 a0 l1 l2 x10_1 x11_2 x14_2 (x17_5 == 0) (wrap64 (x16_3 + 1))) else (neonwrightref05_Cleared.l3 k5 a0 l1 l2 x10_1 x11_2 x14_2 false (wrap64 (x16_3 + 1)))) = some (r1, r2, r3) := H
                                            have A36 := Aside0.mk A360
                                            clear A360
                                            by_cases c37 : t454 = true
                                            · subst c37
                                              have H1 : (neonwrightref05_Cleared.l3 k5 a0 l1 l2 x10_1 x11_2 x14_2 (x17_5 == 0) (wrap64 (x16_3 + 1))) = some (r1, r2, r3) := by rw [if_pos rfl] at H; exact H
                                              clear H
                                              have H := H1
                                              clear H1
                                              have H' := Aside0.mk H
                                              clear H
                                              have p446 : 0 ≤ (x16_3 : Int) := of_decide_eq_true (by first | (with_reducible assumption) | assumption)
                                              have q446 : x16_3 < (l1.length : Int) := of_decide_eq_true (by first | (with_reducible assumption) | assumption)
                                              obtain ⟨ad446, A446_0, c446_0, e446, hx446_0, hl446_0, hi446_0⟩ := at_L1 HR1.out x16_3 p446 q446
                                              cases e446
                                              replace hx446_0 := (HB.out.cell (World.block_lt_of_cell? w _ hx446_0)).trans hx446_0
                                              have HR446_0 := Aside0.mk hi446_0
                                              have HC446_0 := Aside0.mk hl446_0
                                              clear hi446_0 hl446_0
                                              replace p446 := eq_true p446
                                              replace q446 := eq_true q446
                                              have p452 : 0 ≤ (x16_3 : Int) := of_decide_eq_true (by first | (with_reducible assumption) | assumption)
                                              have q452 : x16_3 < (l2.length : Int) := of_decide_eq_true (by first | (with_reducible assumption) | assumption)
                                              obtain ⟨ad452, e452, hx452_0⟩ := Kd.at_bool HR2.out x16_3 p452 q452
                                              (try rw [← Nbq34.out] at hx452_0)
                                              cases e452
                                              replace hx452_0 := (HB.out.cell (World.block_lt_of_cell? w _ hx452_0)).trans hx452_0
                                              replace p452 := eq_true p452
                                              replace q452 := eq_true q452
                                              have p453 : 0 ≤ (x16_3 : Int) := of_decide_eq_true (by first | (with_reducible assumption) | assumption)
                                              have q453 : x16_3 < (l1.length : Int) := of_decide_eq_true (by first | (with_reducible assumption) | assumption)
                                              obtain ⟨ad453, A453_0, c453_0, e453, hx453_0, hl453_0, hi453_0⟩ := at_L1 HR1.out x16_3 p453 q453
                                              obtain rfl : ad446 = ad453 := (by injection e453)
                                              replace hx453_0 := (HB.out.cell (World.block_lt_of_cell? w _ hx453_0)).trans hx453_0
                                              have HR453_0 := Aside0.mk hi453_0
                                              have HC453_0 := Aside0.mk hl453_0
                                              clear hi453_0 hl453_0
                                              replace p453 := eq_true p453
                                              replace q453 := eq_true q453
                                              have ea_ := Option.some.inj (hx446_0.symm.trans hx453_0)
                                              injection ea_ with ea_ en_ ec_
                                              subst ea_
                                              subst ec_
                                              clear en_
                                              go_wp2_with (first | (go_at_call 73; (with_reducible refine (neonwrightref05_has.calls k5 _ _ (rd_L1 l1 x16_3) x14_2 true _ ?side1 ?side2 A36.out).mono ?_); (case side1 => repeat (first | exact (Kd.C_below HR453_0.out HB.out) | (with_reducible refine Kd.C_alloc ?_ _) | (with_reducible refine Kd.C_drewN ?_ _) | (with_reducible refine Kd.C_drew ?_))); (case side2 => exact HC453_0.out); rintro e w' ⟨rfl, ⟨nd, rfl⟩⟩))
                                              go_roundg k5
                                              case measure => have := HK1.out; have := HK2.out; have := HK3.out; have := HJ17.out; have := HK5.out; omega
                                              case rel => exact ⟨((x17_5 == 0)), (wrap64 (x16_3 + 1)), (by first | rfl | (simp; done) | (simp [*]; done)), (by first | rfl | (simp; done) | (simp [*]; done)), H', ⟨by have := HK1.out; have := HK2.out; have := HK3.out; have := HJ17.out; have := HK5.out; omega⟩, ⟨by (with_reducible repeat (first | apply Kd.R_alloc | apply Kd.R_drewN | apply Kd.R_drew)); first | exact HO_10.out | exact Kd.R_mono HO_10.out (fun k_ h_ => ne_own_len h_)⟩, ⟨by (with_reducible repeat (first | apply Kd.R_alloc | apply Kd.R_drewN | apply Kd.R_drew)); first | exact HO_11.out | exact Kd.R_mono HO_11.out (fun k_ h_ => ne_own_len h_)⟩, ⟨by repeat (first | (with_reducible first | exact HB.out | apply below_alloc | apply pw_below_drewN | apply below_drew1) | exact HB.out)⟩⟩
                                            · replace c37 := Bool.eq_false_iff.mpr c37
                                              subst c37
                                              have H1 : (neonwrightref05_Cleared.l3 k5 a0 l1 l2 x10_1 x11_2 x14_2 false (wrap64 (x16_3 + 1))) = some (r1, r2, r3) := by rw [if_neg (show ¬ (false = true) by decide)] at H; exact H
                                              clear H
                                              have H := H1
                                              clear H1
                                              have H' := Aside0.mk H
                                              clear H
                                              have p446 : 0 ≤ (x16_3 : Int) := of_decide_eq_true (by first | (with_reducible assumption) | assumption)
                                              have q446 : x16_3 < (l1.length : Int) := of_decide_eq_true (by first | (with_reducible assumption) | assumption)
                                              obtain ⟨ad446, A446_0, c446_0, e446, hx446_0, hl446_0, hi446_0⟩ := at_L1 HR1.out x16_3 p446 q446
                                              cases e446
                                              replace hx446_0 := (HB.out.cell (World.block_lt_of_cell? w _ hx446_0)).trans hx446_0
                                              have HR446_0 := Aside0.mk hi446_0
                                              have HC446_0 := Aside0.mk hl446_0
                                              clear hi446_0 hl446_0
                                              replace p446 := eq_true p446
                                              replace q446 := eq_true q446
                                              have p452 : 0 ≤ (x16_3 : Int) := of_decide_eq_true (by first | (with_reducible assumption) | assumption)
                                              have q452 : x16_3 < (l2.length : Int) := of_decide_eq_true (by first | (with_reducible assumption) | assumption)
                                              obtain ⟨ad452, e452, hx452_0⟩ := Kd.at_bool HR2.out x16_3 p452 q452
                                              (try rw [← Nbq34.out] at hx452_0)
                                              cases e452
                                              replace hx452_0 := (HB.out.cell (World.block_lt_of_cell? w _ hx452_0)).trans hx452_0
                                              replace p452 := eq_true p452
                                              replace q452 := eq_true q452
                                              have p453 : 0 ≤ (x16_3 : Int) := of_decide_eq_true (by first | (with_reducible assumption) | assumption)
                                              have q453 : x16_3 < (l1.length : Int) := of_decide_eq_true (by first | (with_reducible assumption) | assumption)
                                              obtain ⟨ad453, A453_0, c453_0, e453, hx453_0, hl453_0, hi453_0⟩ := at_L1 HR1.out x16_3 p453 q453
                                              obtain rfl : ad446 = ad453 := (by injection e453)
                                              replace hx453_0 := (HB.out.cell (World.block_lt_of_cell? w _ hx453_0)).trans hx453_0
                                              have HR453_0 := Aside0.mk hi453_0
                                              have HC453_0 := Aside0.mk hl453_0
                                              clear hi453_0 hl453_0
                                              replace p453 := eq_true p453
                                              replace q453 := eq_true q453
                                              have ea_ := Option.some.inj (hx446_0.symm.trans hx453_0)
                                              injection ea_ with ea_ en_ ec_
                                              subst ea_
                                              subst ec_
                                              clear en_
                                              go_wp2_with (first | (go_at_call 73; (with_reducible refine (neonwrightref05_has.calls k5 _ _ (rd_L1 l1 x16_3) x14_2 false _ ?side1 ?side2 A36.out).mono ?_); (case side1 => repeat (first | exact (Kd.C_below HR453_0.out HB.out) | (with_reducible refine Kd.C_alloc ?_ _) | (with_reducible refine Kd.C_drewN ?_ _) | (with_reducible refine Kd.C_drew ?_))); (case side2 => exact HC453_0.out); rintro e w' ⟨rfl, ⟨nd, rfl⟩⟩))
                                              go_roundg k5
                                              case measure => have := HK1.out; have := HK2.out; have := HK3.out; have := HJ17.out; have := HK5.out; omega
                                              case rel => exact ⟨(false), (wrap64 (x16_3 + 1)), (by first | rfl | (simp; done) | (simp [*]; done)), (by first | rfl | (simp; done) | (simp [*]; done)), H', ⟨by have := HK1.out; have := HK2.out; have := HK3.out; have := HJ17.out; have := HK5.out; omega⟩, ⟨by (with_reducible repeat (first | apply Kd.R_alloc | apply Kd.R_drewN | apply Kd.R_drew)); first | exact HO_10.out | exact Kd.R_mono HO_10.out (fun k_ h_ => ne_own_len h_)⟩, ⟨by (with_reducible repeat (first | apply Kd.R_alloc | apply Kd.R_drewN | apply Kd.R_drew)); first | exact HO_11.out | exact Kd.R_mono HO_11.out (fun k_ h_ => ne_own_len h_)⟩, ⟨by repeat (first | (with_reducible first | exact HB.out | apply below_alloc | apply pw_below_drewN | apply below_drew1) | exact HB.out)⟩⟩
                                          · replace c35 := Bool.eq_false_iff.mpr c35
                                            subst c35
                                            have H1 : (neonwrightref05_Cleared.l3 k5 a0 l1 l2 x10_1 x11_2 x14_2 false (wrap64 (x16_3 + 1))) = some (r1, r2, r3) := by rw [if_neg (show ¬ (false = true) by decide)] at H; exact H
                                            clear H
                                            have H := H1
                                            clear H1
                                            have H' := Aside0.mk H
                                            clear H
                                            have p446 : 0 ≤ (x16_3 : Int) := of_decide_eq_true (by first | (with_reducible assumption) | assumption)
                                            have q446 : x16_3 < (l1.length : Int) := of_decide_eq_true (by first | (with_reducible assumption) | assumption)
                                            obtain ⟨ad446, A446_0, c446_0, e446, hx446_0, hl446_0, hi446_0⟩ := at_L1 HR1.out x16_3 p446 q446
                                            cases e446
                                            replace hx446_0 := (HB.out.cell (World.block_lt_of_cell? w _ hx446_0)).trans hx446_0
                                            have HR446_0 := Aside0.mk hi446_0
                                            have HC446_0 := Aside0.mk hl446_0
                                            clear hi446_0 hl446_0
                                            replace p446 := eq_true p446
                                            replace q446 := eq_true q446
                                            have p452 : 0 ≤ (x16_3 : Int) := of_decide_eq_true (by first | (with_reducible assumption) | assumption)
                                            have q452 : x16_3 < (l2.length : Int) := of_decide_eq_true (by first | (with_reducible assumption) | assumption)
                                            obtain ⟨ad452, e452, hx452_0⟩ := Kd.at_bool HR2.out x16_3 p452 q452
                                            (try rw [← Nbq34.out] at hx452_0)
                                            cases e452
                                            replace hx452_0 := (HB.out.cell (World.block_lt_of_cell? w _ hx452_0)).trans hx452_0
                                            replace p452 := eq_true p452
                                            replace q452 := eq_true q452
                                            go_wp2
                                            go_roundg k5
                                            case measure => have := HK1.out; have := HK2.out; have := HK3.out; have := HJ17.out; have := HK5.out; omega
                                            case rel => exact ⟨(false), (wrap64 (x16_3 + 1)), (by first | rfl | (simp; done) | (simp [*]; done)), (by first | rfl | (simp; done) | (simp [*]; done)), H', ⟨by have := HK1.out; have := HK2.out; have := HK3.out; have := HJ17.out; have := HK5.out; omega⟩, ⟨by (with_reducible repeat (first | apply Kd.R_alloc | apply Kd.R_drewN | apply Kd.R_drew)); first | exact HO_10.out | exact Kd.R_mono HO_10.out (fun k_ h_ => ne_own_len h_)⟩, ⟨by (with_reducible repeat (first | apply Kd.R_alloc | apply Kd.R_drewN | apply Kd.R_drew)); first | exact HO_11.out | exact Kd.R_mono HO_11.out (fun k_ h_ => ne_own_len h_)⟩, ⟨by repeat (first | (with_reducible first | exact HB.out | apply below_alloc | apply pw_below_drewN | apply below_drew1) | exact HB.out)⟩⟩
                                        · rw [if_neg c33] at H
                                          exact absurd H (by simp)
                                  · rw [if_neg c24] at H
                                    exact absurd H (by simp)
                                · rw [if_neg c23] at H
                                  exact absurd H (by simp)
                          · replace c22 := Bool.eq_false_iff.mpr c22
                            subst c22
                            have H1 : (if x15_3 = true then (if x11_2.length < 17592186044416 then (neonwrightref05_Cleared.l2 kj17 a0 l1 l2 x10_1 (x11_2 ++ [x14_2]) (wrap64 (x14_2 + 1))) else (none)) else (neonwrightref05_Cleared.l2 kj17 a0 l1 l2 x10_1 x11_2 (wrap64 (x14_2 + 1)))) = some (r1, r2, r3) := by rw [if_neg (show ¬ (false = true) by decide)] at H; exact H
                            clear H
                            have H := H1
                            clear H1
                            by_cases c38 : x15_3 = true
                            · subst c38
                              have H1 : (if x11_2.length < 17592186044416 then (neonwrightref05_Cleared.l2 kj17 a0 l1 l2 x10_1 (x11_2 ++ [x14_2]) (wrap64 (x14_2 + 1))) else (none)) = some (r1, r2, r3) := by rw [if_pos rfl] at H; exact H
                              clear H
                              have H := H1
                              clear H1
                              by_cases c39 : x11_2.length < 17592186044416
                              · rw [if_pos c39] at H
                                have LMc39 := Aside0.mk c39
                                clear c39
                                obtain ⟨y443, hy443⟩ : ∃ y_ : List Int, y_ = (x11_2 ++ [x14_2]) := ⟨_, rfl⟩
                                replace H : (neonwrightref05_Cleared.l2 kj17 a0 l1 l2 x10_1 y443 (wrap64 (x14_2 + 1))) = some (r1, r2, r3) := by first | (rw [hy443]; with_reducible exact H) | (have H2_ := (Option.bind_some _ _).symm.trans H; rw [hy443]; with_reducible exact H2_) | (have H2_ := (Option.bind_some _ _).symm.trans H; with_reducible exact H2_) | with_reducible exact H | (rw [hy443]; exact H) | exact H
                                have Ny443 := Aside0.mk hy443
                                clear hy443
                                have H' := Aside0.mk H
                                clear H
                                go_wp2_with (first | ((with_reducible refine gate_builtin (b := .append) (xs := #[.tmp 127, .tmp 129]) rfl ?_); at_builtin; refine Kd.R_append (Kd.int .i64) (w0 := w) w.heap.size rfl (.tmp 127) (.tmp 129) 25 3 (.int .i64 0) 8 rfl Tryd.underlying25 info3 rfl (by decide) (by omega) u11 x11_2 x14_2 [.int .i64 x14_2] (fun k_ => some k_ ≠ (u10 : Value).ownBlock) (fun _ => False) rfl rfl ?aP (fun _ hk => hk.elim) ?aF ?aO ?aB ?aS ?aL ?_; (case aP => exact rfl); (case aB => exact (by repeat (first | (with_reducible first | exact HB.out | apply below_alloc | apply pw_below_drewN | apply below_drew1) | exact HB.out))); (case aF => exact (fun k_ hk => Kd.fresh' (Kd.R_lt (by (with_reducible repeat (first | apply Kd.R_alloc | apply Kd.R_drewN | apply Kd.R_drew)); exact HO_10.out)) k_ hk)); (case aO => exact (by (with_reducible repeat (first | apply Kd.R_alloc | apply Kd.R_drewN | apply Kd.R_drew)); exact HO_11.out)); (case aS => exact (below_size (by repeat (first | (with_reducible first | exact HB.out | apply below_alloc | apply pw_below_drewN | apply below_drew1) | exact HB.out)))); (case aL => have := LMc39.out; omega); intro v444 w40 ho hb hg hat; rw [← Ny443.out] at ho; have n0_ := Aside0.mk (Kd.R_after (ok := (fun _ => True)) (by (with_reducible repeat (first | apply Kd.R_alloc | apply Kd.R_drewN | apply Kd.R_drew)); exact Kd.R_mono HO_10.out (fun _ hk => ⟨trivial, hk⟩)) hg hat); have n1_ := Aside0.mk (hb); have n2_ := Aside0.mk (ho); clear HO_10; clear HB; clear HO_11; have HO_10 := n0_; have HB := n1_; have HO445 := n2_; clear n0_ n1_ n2_; clear ho hb hg hat))
                                go_roundg kj17
                                case measure => have := HK1.out; have := HK2.out; have := HK3.out; have := HJ17.out; omega
                                case rel => exact ⟨(y443), (wrap64 (x14_2 + 1)), (by first | rfl | (simp; done) | (simp [*]; done)), H', ⟨by have := HK1.out; have := HK2.out; have := HK3.out; have := HJ17.out; omega⟩, ⟨by (with_reducible repeat (first | apply Kd.R_alloc | apply Kd.R_drewN | apply Kd.R_drew)); exact Kd.R_mono HO_10.out (fun _ hk => hk.2)⟩, ⟨by (with_reducible repeat (first | apply Kd.R_alloc | apply Kd.R_drewN | apply Kd.R_drew)); first | exact HO445.out | exact Kd.R_mono HO445.out (fun k_ h_ => ne_own_len h_)⟩, ⟨by repeat (first | (with_reducible first | exact HB.out | apply below_alloc | apply pw_below_drewN | apply below_drew1) | exact HB.out)⟩⟩
                              · rw [if_neg c39] at H
                                exact absurd H (by simp)
                            · replace c38 := Bool.eq_false_iff.mpr c38
                              subst c38
                              have H1 : (neonwrightref05_Cleared.l2 kj17 a0 l1 l2 x10_1 x11_2 (wrap64 (x14_2 + 1))) = some (r1, r2, r3) := by rw [if_neg (show ¬ (false = true) by decide)] at H; exact H
                              clear H
                              have H := H1
                              clear H1
                              have H' := Aside0.mk H
                              clear H
                              go_wp2
                              go_roundg kj17
                              case measure => have := HK1.out; have := HK2.out; have := HK3.out; have := HJ17.out; omega
                              case rel => exact ⟨(x11_2), (wrap64 (x14_2 + 1)), (by first | rfl | (simp; done) | (simp [*]; done)), H', ⟨by have := HK1.out; have := HK2.out; have := HK3.out; have := HJ17.out; omega⟩, ⟨by (with_reducible repeat (first | apply Kd.R_alloc | apply Kd.R_drewN | apply Kd.R_drew)); first | exact HO_10.out | exact Kd.R_mono HO_10.out (fun k_ h_ => ne_own_len h_)⟩, ⟨by (with_reducible repeat (first | apply Kd.R_alloc | apply Kd.R_drewN | apply Kd.R_drew)); first | exact HO_11.out | exact Kd.R_mono HO_11.out (fun k_ h_ => ne_own_len h_)⟩, ⟨by repeat (first | (with_reducible first | exact HB.out | apply below_alloc | apply pw_below_drewN | apply below_drew1) | exact HB.out)⟩⟩
                · rw [if_neg c17] at H
                  have c17b0 : decide (x14_2 < a0) = false := decide_eq_false c17
                  clear c17
                  simp only [Option.some.injEq, Prod.mk.injEq] at H
                  obtain ⟨rfl, rfl, rfl⟩ := H
                  go_wp2
                  go_ret3
                  exact ⟨_, _, by first | rfl | (simp [errW_none, errW_some] <;> rfl) | (simp [*, errW_none, errW_some] <;> rfl), by (with_reducible repeat (first | apply Kd.R_alloc | apply Kd.R_drewN | apply Kd.R_drew)); exact HO_10.out, by (with_reducible repeat (first | apply Kd.R_alloc | apply Kd.R_drewN | apply Kd.R_drew)); exact HO_11.out, by repeat (first | (with_reducible first | exact HB.out | apply below_alloc | apply pw_below_drewN | apply below_drew1) | exact HB.out)⟩
    · rw [if_neg c6] at H
      have c6b0 : ((l2.length : Int) == (l1.length : Int)) = false := beq_eq_false_iff_ne.mpr c6
      have c6b1 : ((l2.length : Int) != (l1.length : Int)) = true := bne_iff_ne.mpr c6
      have c6b2 : (l2.length == l1.length) = false := by first | simpa using c6 | (simp at c6 ⊢; omega)
      simp only [Option.some.injEq, Prod.mk.injEq] at H
      obtain ⟨rfl, rfl, rfl⟩ := H
      go_enter Tryd.func39, Tryd.ntmps39
      go_wp2_with (first | ((with_reducible refine gate_callee (f := 49) rfl ?_); refine goesL_ (some 21) rfl rfl Tryd.func49 (by kernel_rfl) rfl #[.int .i64 a0, .slice A1 l1.length c1] rfl (by (try simp only [List.map_toArray, List.map_cons, List.map_nil]); first | done | rfl | (simp only [List.length_drop, List.length_take]; rfl)) ?_; (with_reducible refine (neonwrightref05_Design.calls k a0 _ _ l1 t435 _ ?side1 ?side2 A4.out).mono ?_); (case side1 => repeat (first | exact HR1.out | (with_reducible refine Kd.C_alloc ?_ _) | (with_reducible refine Kd.C_drewN ?_ _) | (with_reducible refine Kd.C_drew ?_))); (case side2 => exact HC1.out); rintro e w' ⟨rfl, ⟨nd, rfl⟩⟩; refine ⟨_, rfl, ?_⟩))
      go_ret3
      exact ⟨_, _, by first | rfl | (simp [errW_none, errW_some] <;> rfl) | (simp [*, errW_none, errW_some] <;> rfl), by first | exact Kd.R_nil _ _ _ _ _ | exact Kd.N_nil _ _ _ _ _ | exact Kd.V_nil _ _ _ _ _ | exact Kd.Q_nil _ _ _ _ _ | exact Kd.S_nil _ _ _ _ _, by first | exact Kd.R_nil _ _ _ _ _ | exact Kd.N_nil _ _ _ _ _ | exact Kd.V_nil _ _ _ _ _ | exact Kd.Q_nil _ _ _ _ _ | exact Kd.S_nil _ _ _ _ _, by repeat (first | (with_reducible first | exact HB.out | apply below_alloc | apply pw_below_drewN | apply below_drew1) | exact HB.out)⟩
  · rw [if_neg c5] at H
    have c5b0 : (t435 == 0) = false := beq_eq_false_iff_ne.mpr c5
    have c5b1 : (t435 != 0) = true := bne_iff_ne.mpr c5
    simp only [Option.some.injEq, Prod.mk.injEq] at H
    obtain ⟨rfl, rfl, rfl⟩ := H
    go_enter Tryd.func39, Tryd.ntmps39
    go_wp2_with (first | ((with_reducible refine gate_callee (f := 49) rfl ?_); refine goesL_ (some 21) rfl rfl Tryd.func49 (by kernel_rfl) rfl #[.int .i64 a0, .slice A1 l1.length c1] rfl (by (try simp only [List.map_toArray, List.map_cons, List.map_nil]); first | done | rfl | (simp only [List.length_drop, List.length_take]; rfl)) ?_; (with_reducible refine (neonwrightref05_Design.calls k a0 _ _ l1 t435 _ ?side1 ?side2 A4.out).mono ?_); (case side1 => repeat (first | exact HR1.out | (with_reducible refine Kd.C_alloc ?_ _) | (with_reducible refine Kd.C_drewN ?_ _) | (with_reducible refine Kd.C_drew ?_))); (case side2 => exact HC1.out); rintro e w' ⟨rfl, ⟨nd, rfl⟩⟩; refine ⟨_, rfl, ?_⟩))
    go_ret3
    exact ⟨_, _, by first | rfl | (simp [errW_none, errW_some] <;> rfl) | (simp [*, errW_none, errW_some] <;> rfl), by first | exact Kd.R_nil _ _ _ _ _ | exact Kd.N_nil _ _ _ _ _ | exact Kd.V_nil _ _ _ _ _ | exact Kd.Q_nil _ _ _ _ _ | exact Kd.S_nil _ _ _ _ _, by first | exact Kd.R_nil _ _ _ _ _ | exact Kd.N_nil _ _ _ _ _ | exact Kd.V_nil _ _ _ _ _ | exact Kd.Q_nil _ _ _ _ _ | exact Kd.S_nil _ _ _ _ _, by repeat (first | (with_reducible first | exact HB.out | apply below_alloc | apply pw_below_drewN | apply below_drew1) | exact HB.out)⟩

end Go.Proofs.YtglajokjiphafaaDoor.P
