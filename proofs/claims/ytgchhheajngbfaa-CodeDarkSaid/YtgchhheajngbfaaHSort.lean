/- slices.Sort of whole numbers, in a row of the call's own: the library's contract, told in the form of the printed contracts. -/
import Derived.Test.YtgchhheajngbfaaPt
import Derived.Test.YtgchhheajngbfaaShelf
import Derived.Test.YtgchhheajngbfaaIsort
namespace Go.Proofs.Ytgchhheajngbfaa.P
open Go.RowKit Go.Proofs.YtgchhheajngbfaaW.PrintWords Go.Proofs.YtgchhheajngbfaaW.PrintLast Go.Proofs.YtgchhheajngbfaaW.PrintMore
open Go.Sort
set_option linter.unusedSimpArgs false

theorem reps_nums {k : IntKind} {xs : List Int} {cs : List Value} (h : Reps (fun (x : Int) cs => cs = [Value.int k x]) 1 xs cs) : cs = nums k xs := by
  obtain ⟨hl, he⟩ := h
  apply List.ext_getElem?
  intro j
  by_cases hj : j < xs.length
  · have h1 := he j xs[j] (List.getElem?_eq_getElem hj)
    rw [Nat.mul_one] at h1
    have h2 : cs[j]? = ((cs.drop j).take 1)[0]? := by simp
    rw [h2, h1]
    simp [nums, List.getElem?_eq_getElem hj]
  · rw [List.getElem?_eq_none (by omega), List.getElem?_eq_none (by rw [nums_length]; omega)]
theorem reps_of_nums (k : IntKind) (xs : List Int) : Reps (fun (x : Int) cs => cs = [Value.int k x]) 1 xs (nums k xs) := by
  refine ⟨by rw [nums_length, Nat.mul_one], fun j p hj => ?_⟩
  have hlt : j < xs.length := by
    rcases Nat.lt_or_ge j xs.length with h | h
    · exact h
    · rw [List.getElem?_eq_none h] at hj; cases hj
  rw [List.getElem?_eq_getElem hlt] at hj
  injection hj with hj
  rw [Nat.mul_one]
  apply List.ext_getElem?
  intro i
  cases i with
  | zero => simp [nums, List.getElem?_eq_getElem hlt, hj]
  | succ i =>
    simp
    omega
theorem R_int_own {k : IntKind} {e base : Nat} {ok : Nat → Prop} {w : World} {v : Value} {xs : List Int} (h : (Kd.int k).R e w base ok v xs) : (∀ j, v.ownBlock = some j → ok j) ∧ w.ownsRow base e 1 v xs.length (nums k xs) := by
  obtain ⟨h0, inner, ho, hr⟩ := h
  have : inner = nums k xs := reps_nums hr
  subst this
  exact ⟨h0, ho⟩
theorem R_int_mk {k : IntKind} {e base : Nat} {ok : Nat → Prop} {w : World} {v : Value} {xs : List Int} (h0 : ∀ j, v.ownBlock = some j → ok j) (ho : w.ownsRow base e 1 v xs.length (nums k xs)) : (Kd.int k).R e w base ok v xs :=
  ⟨h0, nums k xs, ho, reps_of_nums k xs⟩

/-- A row of the call's own, as the sort's contract sees it. -/
theorem holds_of_own {k : IntKind} {base g cap e : Nat} {w : World} {xs : List Int} (h : w.ownsRow base e 1 (.slice (some ⟨g, 0, none⟩) xs.length cap) xs.length (nums k xs)) :
    Holds (Value.int k) w g 0 xs.toArray ∧ g < w.heap.size := by
  obtain ⟨hl, h⟩ := h
  rcases h with ⟨h1, _⟩ | ⟨g', cap', cur, h1, hb, hh, hn, hc, hs, ht⟩
  · cases h1
  · injection h1 with h1 h2 h3
    injection h1 with h1
    injection h1 with h1
    subst h1
    refine ⟨fun j hj => ?_, (Array.getElem?_eq_some_iff.1 hh).1⟩
    simp only [List.size_toArray] at hj
    rw [Nat.mul_one] at ht
    constructor
    · have h4 : cur.toList[j]? = (nums k xs)[j]? := by
        rw [← ht, List.getElem?_take, if_pos hj]
      simp only [World.cell?, hh, Nat.zero_add]
      simp only [Option.isSome_none, Bool.false_eq_true, if_false]
      rw [← Array.getElem?_toList, h4]
      simp [nums, List.getElem?_eq_getElem hj, hj]
    · simp [World.frozen?, hh]

/-- What stands behind a row that was laid anew. -/
theorem own_put_row {k : IntKind} {base g cap e m : Nat} {os : Array Obj} {w : World} {xs ys : List Int} (hlen : ys.length = xs.length)
    (h : w.ownsRow base e 1 (.slice (some ⟨g, 0, none⟩) xs.length cap) xs.length (nums k xs)) :
    (grow (putRow (Value.int k) (Sort.ahead w m) g 0 ys.toArray) os).ownsRow base e 1 (.slice (some ⟨g, 0, none⟩) xs.length cap) ys.length (nums k ys) := by
  obtain ⟨hl, h⟩ := h
  rcases h with ⟨h1, _⟩ | ⟨g', cap', cur, h1, hb, hh, hn, hc, hs, ht⟩
  · cases h1
  · injection h1 with h1 h2 h3
    injection h1 with h1
    injection h1 with h1
    subst h1 h3
    have hg : g < w.heap.size := (Array.getElem?_eq_some_iff.1 hh).1
    refine ⟨by rw [nums_length, Nat.mul_one], .inr ⟨g, cap, putCells (Value.int k) 0 ys.toArray cur, by rw [hlen], hb, ?_, by omega, hc, by simp [putCells, hs], ?_⟩⟩
    · rw [heap_grow_old _ _ (by simpa using hg)]
      simp only [putRow, mapBlock, heap_ahead, Array.getElem?_modify, if_true, hh, Option.map_some, onCells]
    · rw [Nat.mul_one]
      apply List.ext_getElem?
      intro j
      rw [List.getElem?_take]
      by_cases hj : j < ys.length
      · have hjc : j < cur.size := by omega
        rw [if_pos hj]
        simp only [putCells, Array.getElem?_toList, Array.getElem?_mapIdx, Array.getElem?_eq_getElem hjc, Option.map_some, Nat.zero_le, true_and, Nat.zero_add, List.size_toArray, if_pos hj, Nat.sub_zero]
        simp [nums, List.getElem?_eq_getElem hj, hj]
      · rw [if_neg hj, List.getElem?_eq_none (by rw [nums_length]; omega)]

theorem below_put_row {k : IntKind} {B g m : Nat} {os : Array Obj} {w0 w : World} {d : Array Int} (hB : Below B w0 w) (hg : B ≤ g) (hlt : B ≤ w.heap.size) : Below B w0 (grow (putRow (Value.int k) (Sort.ahead w m) g 0 d) os) := by
  refine ⟨hB.os, hB.tape, hB.output, ?_, fun i hi => ?_⟩
  · have := hB.size
    simp [Sort.ahead]
    omega
  · rw [heap_grow_old _ _ (by simp; omega)]
    simp only [putRow, mapBlock, heap_ahead, Array.getElem?_modify]
    rw [if_neg (by omega)]
    exact hB.block i hi
theorem kept_put_row {k : IntKind} {g m : Nat} {os : Array Obj} {w : World} {d : Array Int} {S : Nat → Prop} (hS : S g) : Kept w (grow (putRow (Value.int k) (Sort.ahead w m) g 0 d) os) S := by
  refine ⟨by simp [Sort.ahead], fun i hi hn => ?_⟩
  rw [heap_grow_old _ _ (by simpa using hi)]
  simp only [putRow, mapBlock, heap_ahead, Array.getElem?_modify]
  rw [if_neg (fun e : g = i => hn (e ▸ hS))]

def slices_Sort_int_int.f (l0 : List Int) : Option (List Int) := if l0.length < 4611686018427387904 then some (Kit.isort l0) else none
theorem slices_Sort_int_int.calls (P0_ : Nat → Prop) (u9000_ : Value) (l0 : List Int) (r : List Int) (w0 w : World) (hB : Below w0.heap.size w0 w) (ho0 : Kd.R (Kd.int .i64) 3 w w0.heap.size P0_ u9000_ l0) (h : slices_Sort_int_int.f l0 = some r) :
    Calls Try.prog 59 #[u9000_] w fun e w' => e = .returned (.tuple #[]) ∧ Kd.R (Kd.int .i64) 3 w' w0.heap.size (fun k_ => (P0_ k_ ∨ w.heap.size ≤ k_)) u9000_ r ∧ Below w0.heap.size w0 w' ∧ Kept w w' (fun k_ => P0_ k_) := by
  unfold slices_Sort_int_int.f at h
  split at h
  case isFalse => cases h
  rename_i hsz
  injection h with h
  subst h
  obtain ⟨h0, ho⟩ := R_int_own ho0
  have ho' := ho
  rcases ho'.2 with ⟨rfl, hn⟩ | ⟨g, cap, cur, rfl, hb, hh, hn, hc, hs, ht⟩
  · have : l0 = [] := List.eq_nil_of_length_eq_zero hn
    subst this
    refine (Try.slices_Sort_int_none none 0 w).mono ?_
    rintro e w' ⟨rfl, rfl⟩
    exact ⟨rfl, Kd.R_nil _ _ _ _ _, hB, Kept.refl _ _⟩
  · obtain ⟨hH, hg⟩ := holds_of_own ho
    refine (Try.slices_Sort_int g 0 cap l0 w hH hg hsz).mono ?_
    rintro e w' ⟨rfl, m, os, rfl⟩
    rw [Kit.mergeSort_isort]
    refine ⟨rfl, R_int_mk (fun j hj => .inl (h0 j hj)) ?_, below_put_row hB hb hB.size, kept_put_row (h0 g rfl)⟩
    exact own_put_row (Kit.isort_length l0) ho

end Go.Proofs.Ytgchhheajngbfaa.P
