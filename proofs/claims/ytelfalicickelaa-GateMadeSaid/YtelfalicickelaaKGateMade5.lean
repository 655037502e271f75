/- Texts of this claim, merged by a program (shake.py): what the last theorems reach of QSame. -/
import Derived.Test.YtelfalicickelaaKB7
set_option linter.unusedSimpArgs false
set_option linter.unusedVariables false
namespace Go.Proofs.Ytelfalicickelaa.P
open Go.Lib Go.RowKit Go.Proofs.YtelfalicickelaaW.PrintWords Go.Proofs.YtelfalicickelaaW.PrintLast Go.Proofs.YtelfalicickelaaW.PrintMore Go.Proofs.Ytelfalicickelaa.Kit
def diffW (c d : GT.C) : Nat := shTo (GT.outsW c none) (GT.outsW d none) c.os.length
def gate_Same.f (a0 : Int) (l1 : List S40) (l2 : List Int) (b0 : Int) (m1 : List S40) (m2 : List Int) : Option (Int × Int) :=
  some (if (okC a0 l1 l2 = true ∧ okC b0 m1 m2 = true) ∧ a0 = b0 ∧ l2.length = m2.length then (match GT.memb (diffW (toC a0.toNat l1 l2) (toC b0.toNat m1 m2)) with | [] => (0, 10) | v :: _ => ((v : Int), 0)) else (0, 2))
def gate_Same.fl (n k : Nat) : Array Bool := (List.replicate k true ++ List.replicate (n - k) false).toArray
def gate_Same.T1 : Bool × List (List Nat × List Nat) := (true, [([], []), ([0], [0]), ([], []), ([2, 1], [2]), ([1, 3, 0, 1], [1]), ([3, 4, 0, 1, 2, 3, 4], [3])])
def gate_Same.B1 : List Nat := [0, 1, 0, 7, 15, 31]
theorem gate_Same.tab1 : rtab .any (opsOf Try.f38 1) = gate_Same.T1 := by kernel_rfl
theorem gate_Same.bits1 : waitsOk gate_Same.T1.2 gate_Same.B1 = true := by kernel_rfl
def gate_Same.T2 : Bool × List (List Nat × List Nat) := (true, [([], []), ([0], [0]), ([1], [1]), ([2], [2]), ([3, 2], [2, 3]), ([2, 4], [2, 4]), ([5, 2], [5]), ([6], [6]), ([7, 6], [6, 7]), ([8, 6], [6, 8]), ([9, 6], [6, 9]), ([10, 6], [6, 10]), ([6], [6]), ([12, 6], [6, 12]), ([13, 6], [6, 13]), ([14, 6], [6, 14]), ([15, 6], [6, 15]), ([11, 16, 6], [6, 11, 16]), ([6, 17], [6, 17]), ([18, 6], [18]), ([19], [19]), ([20, 19], [19, 20]), ([21, 19], [19, 21]), ([22, 19], [19, 22]), ([23, 19], [19, 23]), ([24, 19], [19, 24]), ([19], [19]), ([26, 19], [19, 26]), ([27, 19], [19, 27]), ([28, 19], [19, 28]), ([29, 19], [19, 29]), ([30, 19], [19, 30]), ([25, 31, 19], [19, 25, 31]), ([19, 32], [19, 32])])
def gate_Same.B2 : List Nat := [0, 1, 3, 7, 15, 31, 63, 127, 255, 511, 1023, 2047, 127, 4223, 12415, 28799, 61567, 131071, 262143, 524287, 1048575, 2097151, 4194303, 8388607, 16777215, 33554431, 1048575, 68157439, 202375167, 470810623, 1007681535, 2081423359, 4294967295, 8589934591]
theorem gate_Same.tab2 : rtab .any (opsOf Try.f38 2) = gate_Same.T2 := by kernel_rfl
theorem gate_Same.bits2 : waitsOk gate_Same.T2.2 gate_Same.B2 = true := by kernel_rfl
set_option maxHeartbeats 8000000
set_option maxRecDepth 100000
theorem box_cells {w0 w : World} {n : Int} {A1 : Option Addr} {k1 c1 : Nat} {A2 : Option Addr} {k2 c2 : Nat} {g : Nat} (h : w0.heap[g]? = some (.cells #[.int .i64 n, .slice A1 k1 c1, .slice A2 k2 c2] 25 (0, 0))) (hb : Below w0.heap.size w0 w) :
    w.cell? ⟨g, 0, none⟩ = some (.int .i64 n) ∧ w.cell? ⟨g, 1, none⟩ = some (.slice A1 k1 c1) ∧ w.cell? ⟨g, 2, none⟩ = some (.slice A2 k2 c2) :=
  ⟨pw_cell_below hb (blkc h 0 rfl), pw_cell_below hb (blkc h 1 rfl), pw_cell_below hb (blkc h 2 rfl)⟩
theorem memb_cases {x : Nat} (hx : x < 2 ^ 64) : (x = 0 ∧ GT.memb x = []) ∨ ∃ v t, GT.memb x = v :: t ∧ x ≠ 0 := by
  cases hm : GT.memb x with
  | nil =>
    left
    refine ⟨Nat.eq_of_testBit_eq fun i => ?_, rfl⟩
    rw [Nat.zero_testBit]
    cases h : x.testBit i with
    | false => rfl
    | true =>
      have := (GT.mem_memb hx).2 h
      rw [hm] at this
      simp at this
  | cons v t =>
    right
    refine ⟨v, t, rfl, fun e => ?_⟩
    have hv : v ∈ GT.memb x := by rw [hm]; exact List.mem_cons_self
    have := (GT.mem_memb hx).1 hv
    rw [e, Nat.zero_testBit] at this
    cases this
theorem CircAt.now {W : World} {g N : Nat} {ls : List S40} {os : List Int} (h : CircAt W g N ls os) : ∃ A c, W.cell? ⟨g, 0, none⟩ = some (.int .i64 (N : Int)) ∧ W.cell? ⟨g, 2, none⟩ = some (.slice A os.length c) := by
  obtain ⟨A1, c1, A2, c2, Au, cu, h1, _⟩ := h
  exact ⟨A2, c2, blkc h1 0 rfl, blkc h1 2 rfl⟩
theorem same_nil1 (a0 : Int) (b0 : Int) (A1 : Option Addr) (c1 : Nat) (l1 : List S40) (A2 : Option Addr) (c2 : Nat) (l2 : List Int) (B1 : Option Addr) (d1 : Nat) (m1 : List S40) (B2 : Option Addr) (d2 : Nat) (m2 : List Int) (w : World) (hr1 : Kd.C k40 w A1 l1.length l1) (hc1 : l1.length ≤ c1) (hr2 : Kd.C (Kd.int .i64) w A2 l2.length l2) (hc2 : l2.length ≤ c2) (hs1 : Kd.C k40 w B1 m1.length m1) (hd1 : m1.length ≤ d1) (hs2 : Kd.C (Kd.int .i64) w B2 m2.length m2) (hd2 : m2.length ≤ d2) (ha : okC a0 l1 l2 = false) (hb : okC b0 m1 m2 = false) :
    Calls Try.prog 38 #[.agg #[.int .i64 a0, .slice A1 l1.length c1, .slice A2 l2.length c2], .agg #[.int .i64 b0, .slice B1 m1.length d1, .slice B2 m2.length d2]] w fun e w' => e = .returned (.tuple #[.int .i64 0, .int .i64 2]) ∧ Below w.heap.size w w' := by
  obtain ⟨w0, hw0⟩ : ∃ w0, (w.alloc (.cells #[.int .i64 a0, .slice A1 l1.length c1, .slice A2 l2.length c2] 25)).alloc (.cells #[.int .i64 b0, .slice B1 m1.length d1, .slice B2 m2.length d2] 25) = w0 := ⟨_, rfl⟩
  have HB := Aside0.mk (show Below w.heap.size w w0 by rw [← hw0]; exact below_alloc (below_alloc (Below.refl _ _) _) _)
  have hx : w0.heap[w.heap.size]? = some (.cells #[.int .i64 a0, .slice A1 l1.length c1, .slice A2 l2.length c2] 25 (0, 0)) := by
    rw [← hw0]
    have h1 := heap_alloc_new w (.cells #[.int .i64 a0, .slice A1 l1.length c1, .slice A2 l2.length c2] 25)
    have h2 : Below (w.alloc (.cells #[.int .i64 a0, .slice A1 l1.length c1, .slice A2 l2.length c2] 25)).heap.size (w.alloc (.cells #[.int .i64 a0, .slice A1 l1.length c1, .slice A2 l2.length c2] 25)) ((w.alloc (.cells #[.int .i64 a0, .slice A1 l1.length c1, .slice A2 l2.length c2] 25)).alloc (.cells #[.int .i64 b0, .slice B1 m1.length d1, .slice B2 m2.length d2] 25)) := below_alloc (Below.refl _ _) _
    rw [h2.block _ (by rw [World.size_alloc]; omega)]
    exact h1
  have hy : w0.heap[w.heap.size + 1]? = some (.cells #[.int .i64 b0, .slice B1 m1.length d1, .slice B2 m2.length d2] 25 (0, 0)) := by
    rw [← hw0]
    have := heap_alloc_new (w.alloc (.cells #[.int .i64 a0, .slice A1 l1.length c1, .slice A2 l2.length c2] 25)) (.cells #[.int .i64 b0, .slice B1 m1.length d1, .slice B2 m2.length d2] 25)
    rwa [World.size_alloc] at this
  have HX := Aside0.mk (fun W (h : Below w0.heap.size w0 W) => box_cells hx h)
  have HY := Aside0.mk (fun W (h : Below w0.heap.size w0 W) => box_cells hy h)
  have HO1 := Aside0.mk (fun W (h : Below w0.heap.size w0 W) => of_no a0 l1 l2 A1 c1 A2 c2 W ha (Kd.C_below (Kd.C_below hr1 HB.out) h) hc1 (Kd.C_below (Kd.C_below hr2 HB.out) h) hc2)
  have HO2 := Aside0.mk (fun W (h : Below w0.heap.size w0 W) => of_no b0 m1 m2 B1 d1 B2 d2 W hb (Kd.C_below (Kd.C_below hs1 HB.out) h) hd1 (Kd.C_below (Kd.C_below hs2 HB.out) h) hd2)
  clear hr1 hr2 hs1 hs2 hx hy ha hb
  go_enter Try.func38, Try.ntmps38
  go_wp2
  try rw [hw0]
  have HB0 := Aside0.mk (below_drew1 (Below.refl w0.heap.size w0))
  refine start_ (n := 6) (S := fun w' => w'.cell? ⟨w.heap.size, 0, none⟩ = some (.int .i64 a0) ∧ w'.cell? ⟨w.heap.size, 1, none⟩ = some (.slice A1 l1.length c1) ∧ w'.cell? ⟨w.heap.size, 2, none⟩ = some (.slice A2 l2.length c2) ∧ w'.cell? ⟨w.heap.size + 1, 0, none⟩ = some (.int .i64 b0) ∧ w'.cell? ⟨w.heap.size + 1, 1, none⟩ = some (.slice B1 m1.length d1) ∧ w'.cell? ⟨w.heap.size + 1, 2, none⟩ = some (.slice B2 m2.length d2)) (ds := []) (gate_Same.fl 6 0) (by kernel_rfl) rfl rfl ⟨(HX.out _ HB0.out).1, (HX.out _ HB0.out).2.1, (HX.out _ HB0.out).2.2, (HY.out _ HB0.out).1, (HY.out _ HB0.out).2.1, (HY.out _ HB0.out).2.2⟩ (fun hHeld => ?_)
  refine with_tabW gate_Same.tab1 gate_Same.bits1 (fun HT_ HW_ => ?_)
  generalize w0.drew = wa at HB0 hHeld ⊢
  refine take_ (i := 0) (N := (some 12)) (v := ?_) (a' := ?_) (gate_Same.fl 6 1) rfl rfl (take_ofW HT_.out HW_.out (by kernel_rfl)) (fun _ _ _ h => h) (Or.inl ⟨by rfl, ?_⟩) hHeld ?_ ?_
  rotate_left
  · rintro w' ⟨s0, s1, s2, s3, s4, s5⟩
    go_simp
    with_reducible rfl
  rotate_left
  · simp only [Act.put, List.setIfInBounds_toArray, List.set_cons_zero, List.set_cons_succ, i64_w, i32_w]
    rfl
  refine take_ (i := 2) (N := (some 14)) (v := ?_) (a' := ?_) #[true, false, true, false, false, false] rfl rfl (take_ofW HT_.out HW_.out (by kernel_rfl)) (fun _ _ _ h => h) (Or.inl ⟨by rfl, ?_⟩) hHeld ?_ ?_
  rotate_left
  · rintro w' ⟨s0, s1, s2, s3, s4, s5⟩
    go_simp
    with_reducible rfl
  rotate_left
  · simp only [Act.put, List.setIfInBounds_toArray, List.set_cons_zero, List.set_cons_succ, i64_w, i32_w]
    rfl
  refine one_ (i := 1) (N := (some 13)) (gate_Same.fl 6 3) rfl rfl (one_of HT_.out (by kernel_rfl)) (by decide) (fun K hK => ?_)
  refine goes_ Try.func54 (by kernel_rfl) rfl #[.agg #[.int .i64 a0, .slice A1 l1.length c1, .slice A2 l2.length c2]] (by rfl) rfl rfl (by (try simp only [List.map_toArray, List.map_cons, List.map_nil]); first | done | rfl | (simp only [List.length_drop, List.length_take]; rfl)) ?_
  refine (HO1.out _ HB0.out).mono ?_
  rintro e w1 ⟨rfl, hb1⟩
  refine ⟨_, rfl, ?_⟩
  have HB1 := Aside0.mk (below_step HB0.out hb1)
  clear hb1
  refine hK.out _ _ ⟨(HX.out _ HB1.out).1, (HX.out _ HB1.out).2.1, (HX.out _ HB1.out).2.2, (HY.out _ HB1.out).1, (HY.out _ HB1.out).2.1, (HY.out _ HB1.out).2.2⟩ (fun hHeld => ?_)
  clear hK K
  refine norm_ (a' := ?_) ?_ ?_
  rotate_left
  · show Act.put _ (some 13) _ = _
    simp only [Act.put, List.setIfInBounds_toArray, List.set_cons_zero, List.set_cons_succ, i64_w, i32_w]
    rfl
  refine one_ (i := 3) (N := (some 15)) (gate_Same.fl 6 4) rfl rfl (one_of HT_.out (by kernel_rfl)) (by decide) (fun K hK => ?_)
  refine goes_ Try.func54 (by kernel_rfl) rfl #[.agg #[.int .i64 b0, .slice B1 m1.length d1, .slice B2 m2.length d2]] (by rfl) rfl rfl (by (try simp only [List.map_toArray, List.map_cons, List.map_nil]); first | done | rfl | (simp only [List.length_drop, List.length_take]; rfl)) ?_
  refine (HO2.out _ HB1.out).mono ?_
  rintro e w2 ⟨rfl, hb2⟩
  refine ⟨_, rfl, ?_⟩
  have HB2 := Aside0.mk (below_step HB1.out hb2)
  clear hb2
  refine hK.out _ _ ⟨(HX.out _ HB2.out).1, (HX.out _ HB2.out).2.1, (HX.out _ HB2.out).2.2, (HY.out _ HB2.out).1, (HY.out _ HB2.out).2.1, (HY.out _ HB2.out).2.2⟩ (fun hHeld => ?_)
  clear hK K
  refine norm_ (a' := ?_) ?_ ?_
  rotate_left
  · show Act.put _ (some 15) _ = _
    simp only [Act.put, List.setIfInBounds_toArray, List.set_cons_zero, List.set_cons_succ, i64_w, i32_w]
    rfl
  refine pure_ (i := 4) (N := (some 6)) (v := ?_) (a' := ?_) (gate_Same.fl 6 5) rfl rfl (any_of HT_.out (by kernel_rfl)) (fun _ _ _ h => h) (Or.inl ⟨by rfl, ?_⟩) ?_ ?_
  rotate_left
  · intro w'
    go_simp
    with_reducible rfl
  rotate_left
  · simp only [Act.put, List.setIfInBounds_toArray, List.set_cons_zero, List.set_cons_succ, i64_w, i32_w]
    rfl
  refine pure_ (i := 5) (N := (some 7)) (v := ?_) (a' := ?_) (gate_Same.fl 6 6) rfl rfl (any_of HT_.out (by kernel_rfl)) (fun _ _ _ h => h) (Or.inl ⟨by rfl, ?_⟩) ?_ ?_
  rotate_left
  · intro w'
    go_simp
    with_reducible rfl
  rotate_left
  · simp only [Act.put, List.setIfInBounds_toArray, List.set_cons_zero, List.set_cons_succ, i64_w, i32_w]
    rfl
  refine done_ (done_of HT_.out (by kernel_rfl)) ?_
  clear hHeld HT_ HW_
  try go_wp2
  have HB3 := Aside0.mk (below_drew1 HB2.out)
  refine start_ (n := 34) (S := fun w' => True) (ds := []) (gate_Same.fl 34 0) (by kernel_rfl) rfl rfl trivial (fun hHeld => ?_)
  refine with_tabW gate_Same.tab2 gate_Same.bits2 (fun HT_ HW_ => ?_)
  generalize w2.drew = wb at HB3 hHeld ⊢
  refine pure_ (i := 0) (N := (some 16)) (v := ?_) (a' := ?_) (gate_Same.fl 34 1) rfl rfl (any_of HT_.out (by kernel_rfl)) (fun _ _ _ h => h) (Or.inl ⟨by rfl, ?_⟩) ?_ ?_
  rotate_left
  · intro w'
    go_simp
    with_reducible rfl
  rotate_left
  · simp only [Act.put, List.setIfInBounds_toArray, List.set_cons_zero, List.set_cons_succ, i64_w, i32_w]
    rfl
  refine pure_ (i := 1) (N := (some 17)) (v := ?_) (a' := ?_) (gate_Same.fl 34 2) rfl rfl (any_of HT_.out (by kernel_rfl)) (fun _ _ _ h => h) (Or.inl ⟨by rfl, ?_⟩) ?_ ?_
  rotate_left
  · intro w'
    go_simp
    with_reducible rfl
  rotate_left
  · simp only [Act.put, List.setIfInBounds_toArray, List.set_cons_zero, List.set_cons_succ, i64_w, i32_w]
    rfl
  refine pure_ (i := 2) (N := (some 18)) (v := ?_) (a' := ?_) (gate_Same.fl 34 3) rfl rfl (any_of HT_.out (by kernel_rfl)) (fun _ _ _ h => h) (Or.inl ⟨by rfl, ?_⟩) ?_ ?_
  rotate_left
  · intro w'
    go_simp
    with_reducible rfl
  rotate_left
  · simp only [Act.put, List.setIfInBounds_toArray, List.set_cons_zero, List.set_cons_succ, i64_w, i32_w]
    rfl
  refine pure_ (i := 3) (N := (some 19)) (v := undef) (a' := ?_) (gate_Same.fl 34 4) rfl rfl (any_of HT_.out (by kernel_rfl)) (fun _ _ _ h => h) (Or.inr ⟨by rfl, rfl⟩) ?_ ?_
  rotate_left
  · simp only [Act.put, List.setIfInBounds_toArray, List.set_cons_zero, List.set_cons_succ, i64_w, i32_w]
    rfl
  refine pure_ (i := 4) (N := (some 20)) (v := undef) (a' := ?_) (gate_Same.fl 34 5) rfl rfl (any_of HT_.out (by kernel_rfl)) (fun _ _ _ h => h) (Or.inr ⟨by rfl, rfl⟩) ?_ ?_
  rotate_left
  · simp only [Act.put, List.setIfInBounds_toArray, List.set_cons_zero, List.set_cons_succ, i64_w, i32_w]
    rfl
  refine pure_ (i := 5) (N := (some 21)) (v := ?_) (a' := ?_) (gate_Same.fl 34 6) rfl rfl (any_of HT_.out (by kernel_rfl)) (fun _ _ _ h => h) (Or.inl ⟨by rfl, ?_⟩) ?_ ?_
  rotate_left
  · intro w'
    go_simp
    with_reducible rfl
  rotate_left
  · simp only [Act.put, List.setIfInBounds_toArray, List.set_cons_zero, List.set_cons_succ, i64_w, i32_w]
    rfl
  refine pure_ (i := 6) (N := (some 22)) (v := ?_) (a' := ?_) (gate_Same.fl 34 7) rfl rfl (any_of HT_.out (by kernel_rfl)) (fun _ _ _ h => h) (Or.inl ⟨by rfl, ?_⟩) ?_ ?_
  rotate_left
  · intro w'
    go_simp
    with_reducible rfl
  rotate_left
  · simp only [Act.put, List.setIfInBounds_toArray, List.set_cons_zero, List.set_cons_succ, i64_w, i32_w]
    rfl
  refine pure_ (i := 7) (N := (some 23)) (v := undef) (a' := ?_) (gate_Same.fl 34 8) rfl rfl (any_of HT_.out (by kernel_rfl)) (fun _ _ _ h => h) (Or.inr ⟨by rfl, rfl⟩) ?_ ?_
  rotate_left
  · simp only [Act.put, List.setIfInBounds_toArray, List.set_cons_zero, List.set_cons_succ, i64_w, i32_w]
    rfl
  refine pure_ (i := 8) (N := (some 24)) (v := undef) (a' := ?_) (gate_Same.fl 34 9) rfl rfl (any_of HT_.out (by kernel_rfl)) (fun _ _ _ h => h) (Or.inr ⟨by rfl, rfl⟩) ?_ ?_
  rotate_left
  · simp only [Act.put, List.setIfInBounds_toArray, List.set_cons_zero, List.set_cons_succ, i64_w, i32_w]
    rfl
  refine pure_ (i := 9) (N := (some 25)) (v := undef) (a' := ?_) (gate_Same.fl 34 10) rfl rfl (any_of HT_.out (by kernel_rfl)) (fun _ _ _ h => h) (Or.inr ⟨by rfl, rfl⟩) ?_ ?_
  rotate_left
  · simp only [Act.put, List.setIfInBounds_toArray, List.set_cons_zero, List.set_cons_succ, i64_w, i32_w]
    rfl
  refine pure_ (i := 10) (N := (some 26)) (v := undef) (a' := ?_) (gate_Same.fl 34 11) rfl rfl (any_of HT_.out (by kernel_rfl)) (fun _ _ _ h => h) (Or.inr ⟨by rfl, rfl⟩) ?_ ?_
  rotate_left
  · simp only [Act.put, List.setIfInBounds_toArray, List.set_cons_zero, List.set_cons_succ, i64_w, i32_w]
    rfl
  refine pure_ (i := 11) (N := (some 27)) (v := undef) (a' := ?_) (gate_Same.fl 34 12) rfl rfl (any_of HT_.out (by kernel_rfl)) (fun _ _ _ h => h) (Or.inr ⟨by rfl, rfl⟩) ?_ ?_
  rotate_left
  · simp only [Act.put, List.setIfInBounds_toArray, List.set_cons_zero, List.set_cons_succ, i64_w, i32_w]
    rfl
  refine pure_ (i := 12) (N := (some 28)) (v := undef) (a' := ?_) (gate_Same.fl 34 13) rfl rfl (any_of HT_.out (by kernel_rfl)) (fun _ _ _ h => h) (Or.inr ⟨by rfl, rfl⟩) ?_ ?_
  rotate_left
  · simp only [Act.put, List.setIfInBounds_toArray, List.set_cons_zero, List.set_cons_succ, i64_w, i32_w]
    rfl
  refine pure_ (i := 13) (N := (some 29)) (v := undef) (a' := ?_) (gate_Same.fl 34 14) rfl rfl (any_of HT_.out (by kernel_rfl)) (fun _ _ _ h => h) (Or.inr ⟨by rfl, rfl⟩) ?_ ?_
  rotate_left
  · simp only [Act.put, List.setIfInBounds_toArray, List.set_cons_zero, List.set_cons_succ, i64_w, i32_w]
    rfl
  refine pure_ (i := 14) (N := (some 30)) (v := undef) (a' := ?_) (gate_Same.fl 34 15) rfl rfl (any_of HT_.out (by kernel_rfl)) (fun _ _ _ h => h) (Or.inr ⟨by rfl, rfl⟩) ?_ ?_
  rotate_left
  · simp only [Act.put, List.setIfInBounds_toArray, List.set_cons_zero, List.set_cons_succ, i64_w, i32_w]
    rfl
  refine pure_ (i := 15) (N := (some 31)) (v := undef) (a' := ?_) (gate_Same.fl 34 16) rfl rfl (any_of HT_.out (by kernel_rfl)) (fun _ _ _ h => h) (Or.inr ⟨by rfl, rfl⟩) ?_ ?_
  rotate_left
  · simp only [Act.put, List.setIfInBounds_toArray, List.set_cons_zero, List.set_cons_succ, i64_w, i32_w]
    rfl
  refine pure_ (i := 16) (N := (some 32)) (v := undef) (a' := ?_) (gate_Same.fl 34 17) rfl rfl (any_of HT_.out (by kernel_rfl)) (fun _ _ _ h => h) (Or.inr ⟨by rfl, rfl⟩) ?_ ?_
  rotate_left
  · simp only [Act.put, List.setIfInBounds_toArray, List.set_cons_zero, List.set_cons_succ, i64_w, i32_w]
    rfl
  refine pure_ (i := 17) (N := (some 33)) (v := undef) (a' := ?_) (gate_Same.fl 34 18) rfl rfl (any_of HT_.out (by kernel_rfl)) (fun _ _ _ h => h) (Or.inr ⟨by rfl, rfl⟩) ?_ ?_
  rotate_left
  · simp only [Act.put, List.setIfInBounds_toArray, List.set_cons_zero, List.set_cons_succ, i64_w, i32_w]
    rfl
  refine pure_ (i := 18) (N := (some 34)) (v := ?_) (a' := ?_) (gate_Same.fl 34 19) rfl rfl (any_of HT_.out (by kernel_rfl)) (fun _ _ _ h => h) (Or.inl ⟨by rfl, ?_⟩) ?_ ?_
  rotate_left
  · intro w'
    go_simp
    with_reducible rfl
  rotate_left
  · simp only [Act.put, List.setIfInBounds_toArray, List.set_cons_zero, List.set_cons_succ, i64_w, i32_w]
    rfl
  refine pure_ (i := 19) (N := (some 35)) (v := ?_) (a' := ?_) (gate_Same.fl 34 20) rfl rfl (any_of HT_.out (by kernel_rfl)) (fun _ _ _ h => h) (Or.inl ⟨by rfl, ?_⟩) ?_ ?_
  rotate_left
  · intro w'
    go_simp
    with_reducible rfl
  rotate_left
  · simp only [Act.put, List.setIfInBounds_toArray, List.set_cons_zero, List.set_cons_succ, i64_w, i32_w]
    rfl
  refine pure_ (i := 20) (N := (some 36)) (v := undef) (a' := ?_) (gate_Same.fl 34 21) rfl rfl (any_of HT_.out (by kernel_rfl)) (fun _ _ _ h => h) (Or.inr ⟨by rfl, rfl⟩) ?_ ?_
  rotate_left
  · simp only [Act.put, List.setIfInBounds_toArray, List.set_cons_zero, List.set_cons_succ, i64_w, i32_w]
    rfl
  refine pure_ (i := 21) (N := (some 37)) (v := undef) (a' := ?_) (gate_Same.fl 34 22) rfl rfl (any_of HT_.out (by kernel_rfl)) (fun _ _ _ h => h) (Or.inr ⟨by rfl, rfl⟩) ?_ ?_
  rotate_left
  · simp only [Act.put, List.setIfInBounds_toArray, List.set_cons_zero, List.set_cons_succ, i64_w, i32_w]
    rfl
  refine pure_ (i := 22) (N := (some 38)) (v := undef) (a' := ?_) (gate_Same.fl 34 23) rfl rfl (any_of HT_.out (by kernel_rfl)) (fun _ _ _ h => h) (Or.inr ⟨by rfl, rfl⟩) ?_ ?_
  rotate_left
  · simp only [Act.put, List.setIfInBounds_toArray, List.set_cons_zero, List.set_cons_succ, i64_w, i32_w]
    rfl
  refine pure_ (i := 23) (N := (some 39)) (v := undef) (a' := ?_) (gate_Same.fl 34 24) rfl rfl (any_of HT_.out (by kernel_rfl)) (fun _ _ _ h => h) (Or.inr ⟨by rfl, rfl⟩) ?_ ?_
  rotate_left
  · simp only [Act.put, List.setIfInBounds_toArray, List.set_cons_zero, List.set_cons_succ, i64_w, i32_w]
    rfl
  refine pure_ (i := 24) (N := (some 40)) (v := undef) (a' := ?_) (gate_Same.fl 34 25) rfl rfl (any_of HT_.out (by kernel_rfl)) (fun _ _ _ h => h) (Or.inr ⟨by rfl, rfl⟩) ?_ ?_
  rotate_left
  · simp only [Act.put, List.setIfInBounds_toArray, List.set_cons_zero, List.set_cons_succ, i64_w, i32_w]
    rfl
  refine pure_ (i := 25) (N := (some 41)) (v := undef) (a' := ?_) (gate_Same.fl 34 26) rfl rfl (any_of HT_.out (by kernel_rfl)) (fun _ _ _ h => h) (Or.inr ⟨by rfl, rfl⟩) ?_ ?_
  rotate_left
  · simp only [Act.put, List.setIfInBounds_toArray, List.set_cons_zero, List.set_cons_succ, i64_w, i32_w]
    rfl
  refine pure_ (i := 26) (N := (some 42)) (v := undef) (a' := ?_) (gate_Same.fl 34 27) rfl rfl (any_of HT_.out (by kernel_rfl)) (fun _ _ _ h => h) (Or.inr ⟨by rfl, rfl⟩) ?_ ?_
  rotate_left
  · simp only [Act.put, List.setIfInBounds_toArray, List.set_cons_zero, List.set_cons_succ, i64_w, i32_w]
    rfl
  refine pure_ (i := 27) (N := (some 43)) (v := undef) (a' := ?_) (gate_Same.fl 34 28) rfl rfl (any_of HT_.out (by kernel_rfl)) (fun _ _ _ h => h) (Or.inr ⟨by rfl, rfl⟩) ?_ ?_
  rotate_left
  · simp only [Act.put, List.setIfInBounds_toArray, List.set_cons_zero, List.set_cons_succ, i64_w, i32_w]
    rfl
  refine pure_ (i := 28) (N := (some 44)) (v := undef) (a' := ?_) (gate_Same.fl 34 29) rfl rfl (any_of HT_.out (by kernel_rfl)) (fun _ _ _ h => h) (Or.inr ⟨by rfl, rfl⟩) ?_ ?_
  rotate_left
  · simp only [Act.put, List.setIfInBounds_toArray, List.set_cons_zero, List.set_cons_succ, i64_w, i32_w]
    rfl
  refine pure_ (i := 29) (N := (some 45)) (v := undef) (a' := ?_) (gate_Same.fl 34 30) rfl rfl (any_of HT_.out (by kernel_rfl)) (fun _ _ _ h => h) (Or.inr ⟨by rfl, rfl⟩) ?_ ?_
  rotate_left
  · simp only [Act.put, List.setIfInBounds_toArray, List.set_cons_zero, List.set_cons_succ, i64_w, i32_w]
    rfl
  refine pure_ (i := 30) (N := (some 46)) (v := undef) (a' := ?_) (gate_Same.fl 34 31) rfl rfl (any_of HT_.out (by kernel_rfl)) (fun _ _ _ h => h) (Or.inr ⟨by rfl, rfl⟩) ?_ ?_
  rotate_left
  · simp only [Act.put, List.setIfInBounds_toArray, List.set_cons_zero, List.set_cons_succ, i64_w, i32_w]
    rfl
  refine pure_ (i := 31) (N := (some 47)) (v := undef) (a' := ?_) (gate_Same.fl 34 32) rfl rfl (any_of HT_.out (by kernel_rfl)) (fun _ _ _ h => h) (Or.inr ⟨by rfl, rfl⟩) ?_ ?_
  rotate_left
  · simp only [Act.put, List.setIfInBounds_toArray, List.set_cons_zero, List.set_cons_succ, i64_w, i32_w]
    rfl
  refine pure_ (i := 32) (N := (some 48)) (v := undef) (a' := ?_) (gate_Same.fl 34 33) rfl rfl (any_of HT_.out (by kernel_rfl)) (fun _ _ _ h => h) (Or.inr ⟨by rfl, rfl⟩) ?_ ?_
  rotate_left
  · simp only [Act.put, List.setIfInBounds_toArray, List.set_cons_zero, List.set_cons_succ, i64_w, i32_w]
    rfl
  refine pure_ (i := 33) (N := (some 49)) (v := ?_) (a' := ?_) (gate_Same.fl 34 34) rfl rfl (any_of HT_.out (by kernel_rfl)) (fun _ _ _ h => h) (Or.inl ⟨by rfl, ?_⟩) ?_ ?_
  rotate_left
  · intro w'
    go_simp
    with_reducible rfl
  rotate_left
  · simp only [Act.put, List.setIfInBounds_toArray, List.set_cons_zero, List.set_cons_succ, i64_w, i32_w]
    rfl
  refine done_ (done_of HT_.out (by kernel_rfl)) ?_
  clear hHeld HT_ HW_
  go_wp2
  go_ret2
  exact ⟨rfl, HB.out.trans (HB3.out.mono HB.out.size)⟩
theorem same_nil2 (a0 : Int) (M : Nat) (A1 : Option Addr) (c1 : Nat) (l1 : List S40) (A2 : Option Addr) (c2 : Nat) (l2 : List Int) (B1 : Option Addr) (d1 : Nat) (m1 : List S40) (B2 : Option Addr) (d2 : Nat) (m2 : List Int) (w : World) (hr1 : Kd.C k40 w A1 l1.length l1) (hc1 : l1.length ≤ c1) (hr2 : Kd.C (Kd.int .i64) w A2 l2.length l2) (hc2 : l2.length ≤ c2) (hs1 : Kd.C k40 w B1 m1.length m1) (hd1 : m1.length ≤ d1) (hs2 : Kd.C (Kd.int .i64) w B2 m2.length m2) (hd2 : m2.length ≤ d2) (ha : okC a0 l1 l2 = false) (hb : okC (M : Int) m1 m2 = true) :
    Calls Try.prog 38 #[.agg #[.int .i64 a0, .slice A1 l1.length c1, .slice A2 l2.length c2], .agg #[.int .i64 (M : Int), .slice B1 m1.length d1, .slice B2 m2.length d2]] w fun e w' => e = .returned (.tuple #[.int .i64 0, .int .i64 2]) ∧ Below w.heap.size w w' := by
  obtain ⟨w0, hw0⟩ : ∃ w0, (w.alloc (.cells #[.int .i64 a0, .slice A1 l1.length c1, .slice A2 l2.length c2] 25)).alloc (.cells #[.int .i64 (M : Int), .slice B1 m1.length d1, .slice B2 m2.length d2] 25) = w0 := ⟨_, rfl⟩
  have HB := Aside0.mk (show Below w.heap.size w w0 by rw [← hw0]; exact below_alloc (below_alloc (Below.refl _ _) _) _)
  have hx : w0.heap[w.heap.size]? = some (.cells #[.int .i64 a0, .slice A1 l1.length c1, .slice A2 l2.length c2] 25 (0, 0)) := by
    rw [← hw0]
    have h1 := heap_alloc_new w (.cells #[.int .i64 a0, .slice A1 l1.length c1, .slice A2 l2.length c2] 25)
    have h2 : Below (w.alloc (.cells #[.int .i64 a0, .slice A1 l1.length c1, .slice A2 l2.length c2] 25)).heap.size (w.alloc (.cells #[.int .i64 a0, .slice A1 l1.length c1, .slice A2 l2.length c2] 25)) ((w.alloc (.cells #[.int .i64 a0, .slice A1 l1.length c1, .slice A2 l2.length c2] 25)).alloc (.cells #[.int .i64 (M : Int), .slice B1 m1.length d1, .slice B2 m2.length d2] 25)) := below_alloc (Below.refl _ _) _
    rw [h2.block _ (by rw [World.size_alloc]; omega)]
    exact h1
  have hy : w0.heap[w.heap.size + 1]? = some (.cells #[.int .i64 (M : Int), .slice B1 m1.length d1, .slice B2 m2.length d2] 25 (0, 0)) := by
    rw [← hw0]
    have := heap_alloc_new (w.alloc (.cells #[.int .i64 a0, .slice A1 l1.length c1, .slice A2 l2.length c2] 25)) (.cells #[.int .i64 (M : Int), .slice B1 m1.length d1, .slice B2 m2.length d2] 25)
    rwa [World.size_alloc] at this
  have HX := Aside0.mk (fun W (h : Below w0.heap.size w0 W) => box_cells hx h)
  have HY := Aside0.mk (fun W (h : Below w0.heap.size w0 W) => box_cells hy h)
  have HO1 := Aside0.mk (fun W (h : Below w0.heap.size w0 W) => of_no a0 l1 l2 A1 c1 A2 c2 W ha (Kd.C_below (Kd.C_below hr1 HB.out) h) hc1 (Kd.C_below (Kd.C_below hr2 HB.out) h) hc2)
  have HO2 := Aside0.mk (fun W (h : Below w0.heap.size w0 W) => of_ok M m1 m2 B1 d1 B2 d2 W hb (Kd.C_below (Kd.C_below hs1 HB.out) h) hd1 (Kd.C_below (Kd.C_below hs2 HB.out) h) hd2)
  clear hr1 hr2 hs1 hs2 hx hy ha hb
  go_enter Try.func38, Try.ntmps38
  go_wp2
  try rw [hw0]
  have HB0 := Aside0.mk (below_drew1 (Below.refl w0.heap.size w0))
  refine start_ (n := 6) (S := fun w' => w'.cell? ⟨w.heap.size, 0, none⟩ = some (.int .i64 a0) ∧ w'.cell? ⟨w.heap.size, 1, none⟩ = some (.slice A1 l1.length c1) ∧ w'.cell? ⟨w.heap.size, 2, none⟩ = some (.slice A2 l2.length c2) ∧ w'.cell? ⟨w.heap.size + 1, 0, none⟩ = some (.int .i64 (M : Int)) ∧ w'.cell? ⟨w.heap.size + 1, 1, none⟩ = some (.slice B1 m1.length d1) ∧ w'.cell? ⟨w.heap.size + 1, 2, none⟩ = some (.slice B2 m2.length d2)) (ds := []) (gate_Same.fl 6 0) (by kernel_rfl) rfl rfl ⟨(HX.out _ HB0.out).1, (HX.out _ HB0.out).2.1, (HX.out _ HB0.out).2.2, (HY.out _ HB0.out).1, (HY.out _ HB0.out).2.1, (HY.out _ HB0.out).2.2⟩ (fun hHeld => ?_)
  refine with_tabW gate_Same.tab1 gate_Same.bits1 (fun HT_ HW_ => ?_)
  generalize w0.drew = wa at HB0 hHeld ⊢
  refine take_ (i := 0) (N := (some 12)) (v := ?_) (a' := ?_) (gate_Same.fl 6 1) rfl rfl (take_ofW HT_.out HW_.out (by kernel_rfl)) (fun _ _ _ h => h) (Or.inl ⟨by rfl, ?_⟩) hHeld ?_ ?_
  rotate_left
  · rintro w' ⟨s0, s1, s2, s3, s4, s5⟩
    go_simp
    with_reducible rfl
  rotate_left
  · simp only [Act.put, List.setIfInBounds_toArray, List.set_cons_zero, List.set_cons_succ, i64_w, i32_w]
    rfl
  refine take_ (i := 2) (N := (some 14)) (v := ?_) (a' := ?_) #[true, false, true, false, false, false] rfl rfl (take_ofW HT_.out HW_.out (by kernel_rfl)) (fun _ _ _ h => h) (Or.inl ⟨by rfl, ?_⟩) hHeld ?_ ?_
  rotate_left
  · rintro w' ⟨s0, s1, s2, s3, s4, s5⟩
    go_simp
    with_reducible rfl
  rotate_left
  · simp only [Act.put, List.setIfInBounds_toArray, List.set_cons_zero, List.set_cons_succ, i64_w, i32_w]
    rfl
  refine one_ (i := 1) (N := (some 13)) (gate_Same.fl 6 3) rfl rfl (one_of HT_.out (by kernel_rfl)) (by decide) (fun K hK => ?_)
  refine goes_ Try.func54 (by kernel_rfl) rfl #[.agg #[.int .i64 a0, .slice A1 l1.length c1, .slice A2 l2.length c2]] (by rfl) rfl rfl (by (try simp only [List.map_toArray, List.map_cons, List.map_nil]); first | done | rfl | (simp only [List.length_drop, List.length_take]; rfl)) ?_
  refine (HO1.out _ HB0.out).mono ?_
  rintro e w1 ⟨rfl, hb1⟩
  refine ⟨_, rfl, ?_⟩
  have HB1 := Aside0.mk (below_step HB0.out hb1)
  clear hb1
  refine hK.out _ _ ⟨(HX.out _ HB1.out).1, (HX.out _ HB1.out).2.1, (HX.out _ HB1.out).2.2, (HY.out _ HB1.out).1, (HY.out _ HB1.out).2.1, (HY.out _ HB1.out).2.2⟩ (fun hHeld => ?_)
  clear hK K
  refine norm_ (a' := ?_) ?_ ?_
  rotate_left
  · show Act.put _ (some 13) _ = _
    simp only [Act.put, List.setIfInBounds_toArray, List.set_cons_zero, List.set_cons_succ, i64_w, i32_w]
    rfl
  refine one_ (i := 3) (N := (some 15)) (gate_Same.fl 6 4) rfl rfl (one_of HT_.out (by kernel_rfl)) (by decide) (fun K hK => ?_)
  refine goes_ Try.func54 (by kernel_rfl) rfl #[.agg #[.int .i64 (M : Int), .slice B1 m1.length d1, .slice B2 m2.length d2]] (by rfl) rfl rfl (by (try simp only [List.map_toArray, List.map_cons, List.map_nil]); first | done | rfl | (simp only [List.length_drop, List.length_take]; rfl)) ?_
  refine (HO2.out _ HB1.out).mono ?_
  rintro e w2 ⟨gy, rfl, hC2, hb2⟩
  refine ⟨_, rfl, ?_⟩
  have HB2 := Aside0.mk (below_step HB1.out hb2)
  have HC2 := Aside0.mk hC2
  clear hC2
  clear hb2
  refine hK.out _ _ ⟨(HX.out _ HB2.out).1, (HX.out _ HB2.out).2.1, (HX.out _ HB2.out).2.2, (HY.out _ HB2.out).1, (HY.out _ HB2.out).2.1, (HY.out _ HB2.out).2.2⟩ (fun hHeld => ?_)
  clear hK K
  refine norm_ (a' := ?_) ?_ ?_
  rotate_left
  · show Act.put _ (some 15) _ = _
    simp only [Act.put, List.setIfInBounds_toArray, List.set_cons_zero, List.set_cons_succ, i64_w, i32_w]
    rfl
  refine pure_ (i := 4) (N := (some 6)) (v := ?_) (a' := ?_) (gate_Same.fl 6 5) rfl rfl (any_of HT_.out (by kernel_rfl)) (fun _ _ _ h => h) (Or.inl ⟨by rfl, ?_⟩) ?_ ?_
  rotate_left
  · intro w'
    go_simp
    with_reducible rfl
  rotate_left
  · simp only [Act.put, List.setIfInBounds_toArray, List.set_cons_zero, List.set_cons_succ, i64_w, i32_w]
    rfl
  refine pure_ (i := 5) (N := (some 7)) (v := ?_) (a' := ?_) (gate_Same.fl 6 6) rfl rfl (any_of HT_.out (by kernel_rfl)) (fun _ _ _ h => h) (Or.inl ⟨by rfl, ?_⟩) ?_ ?_
  rotate_left
  · intro w'
    go_simp
    with_reducible rfl
  rotate_left
  · simp only [Act.put, List.setIfInBounds_toArray, List.set_cons_zero, List.set_cons_succ, i64_w, i32_w]
    rfl
  refine done_ (done_of HT_.out (by kernel_rfl)) ?_
  clear hHeld HT_ HW_
  try go_wp2
  have HB3 := Aside0.mk (below_drew1 HB2.out)
  refine start_ (n := 34) (S := fun w' => True) (ds := []) (gate_Same.fl 34 0) (by kernel_rfl) rfl rfl trivial (fun hHeld => ?_)
  refine with_tabW gate_Same.tab2 gate_Same.bits2 (fun HT_ HW_ => ?_)
  generalize w2.drew = wb at HB3 hHeld ⊢
  refine pure_ (i := 0) (N := (some 16)) (v := ?_) (a' := ?_) (gate_Same.fl 34 1) rfl rfl (any_of HT_.out (by kernel_rfl)) (fun _ _ _ h => h) (Or.inl ⟨by rfl, ?_⟩) ?_ ?_
  rotate_left
  · intro w'
    go_simp
    with_reducible rfl
  rotate_left
  · simp only [Act.put, List.setIfInBounds_toArray, List.set_cons_zero, List.set_cons_succ, i64_w, i32_w]
    rfl
  refine pure_ (i := 1) (N := (some 17)) (v := ?_) (a' := ?_) (gate_Same.fl 34 2) rfl rfl (any_of HT_.out (by kernel_rfl)) (fun _ _ _ h => h) (Or.inl ⟨by rfl, ?_⟩) ?_ ?_
  rotate_left
  · intro w'
    go_simp
    with_reducible rfl
  rotate_left
  · simp only [Act.put, List.setIfInBounds_toArray, List.set_cons_zero, List.set_cons_succ, i64_w, i32_w]
    rfl
  refine pure_ (i := 2) (N := (some 18)) (v := ?_) (a' := ?_) (gate_Same.fl 34 3) rfl rfl (any_of HT_.out (by kernel_rfl)) (fun _ _ _ h => h) (Or.inl ⟨by rfl, ?_⟩) ?_ ?_
  rotate_left
  · intro w'
    go_simp
    with_reducible rfl
  rotate_left
  · simp only [Act.put, List.setIfInBounds_toArray, List.set_cons_zero, List.set_cons_succ, i64_w, i32_w]
    rfl
  refine pure_ (i := 3) (N := (some 19)) (v := undef) (a' := ?_) (gate_Same.fl 34 4) rfl rfl (any_of HT_.out (by kernel_rfl)) (fun _ _ _ h => h) (Or.inr ⟨by rfl, rfl⟩) ?_ ?_
  rotate_left
  · simp only [Act.put, List.setIfInBounds_toArray, List.set_cons_zero, List.set_cons_succ, i64_w, i32_w]
    rfl
  refine pure_ (i := 4) (N := (some 20)) (v := undef) (a' := ?_) (gate_Same.fl 34 5) rfl rfl (any_of HT_.out (by kernel_rfl)) (fun _ _ _ h => h) (Or.inr ⟨by rfl, rfl⟩) ?_ ?_
  rotate_left
  · simp only [Act.put, List.setIfInBounds_toArray, List.set_cons_zero, List.set_cons_succ, i64_w, i32_w]
    rfl
  refine pure_ (i := 5) (N := (some 21)) (v := ?_) (a' := ?_) (gate_Same.fl 34 6) rfl rfl (any_of HT_.out (by kernel_rfl)) (fun _ _ _ h => h) (Or.inl ⟨by rfl, ?_⟩) ?_ ?_
  rotate_left
  · intro w'
    go_simp
    with_reducible rfl
  rotate_left
  · simp only [Act.put, List.setIfInBounds_toArray, List.set_cons_zero, List.set_cons_succ, i64_w, i32_w]
    rfl
  refine pure_ (i := 6) (N := (some 22)) (v := ?_) (a' := ?_) (gate_Same.fl 34 7) rfl rfl (any_of HT_.out (by kernel_rfl)) (fun _ _ _ h => h) (Or.inl ⟨by rfl, ?_⟩) ?_ ?_
  rotate_left
  · intro w'
    go_simp
    with_reducible rfl
  rotate_left
  · simp only [Act.put, List.setIfInBounds_toArray, List.set_cons_zero, List.set_cons_succ, i64_w, i32_w]
    rfl
  refine pure_ (i := 7) (N := (some 23)) (v := undef) (a' := ?_) (gate_Same.fl 34 8) rfl rfl (any_of HT_.out (by kernel_rfl)) (fun _ _ _ h => h) (Or.inr ⟨by rfl, rfl⟩) ?_ ?_
  rotate_left
  · simp only [Act.put, List.setIfInBounds_toArray, List.set_cons_zero, List.set_cons_succ, i64_w, i32_w]
    rfl
  refine pure_ (i := 8) (N := (some 24)) (v := undef) (a' := ?_) (gate_Same.fl 34 9) rfl rfl (any_of HT_.out (by kernel_rfl)) (fun _ _ _ h => h) (Or.inr ⟨by rfl, rfl⟩) ?_ ?_
  rotate_left
  · simp only [Act.put, List.setIfInBounds_toArray, List.set_cons_zero, List.set_cons_succ, i64_w, i32_w]
    rfl
  refine pure_ (i := 9) (N := (some 25)) (v := undef) (a' := ?_) (gate_Same.fl 34 10) rfl rfl (any_of HT_.out (by kernel_rfl)) (fun _ _ _ h => h) (Or.inr ⟨by rfl, rfl⟩) ?_ ?_
  rotate_left
  · simp only [Act.put, List.setIfInBounds_toArray, List.set_cons_zero, List.set_cons_succ, i64_w, i32_w]
    rfl
  refine pure_ (i := 10) (N := (some 26)) (v := undef) (a' := ?_) (gate_Same.fl 34 11) rfl rfl (any_of HT_.out (by kernel_rfl)) (fun _ _ _ h => h) (Or.inr ⟨by rfl, rfl⟩) ?_ ?_
  rotate_left
  · simp only [Act.put, List.setIfInBounds_toArray, List.set_cons_zero, List.set_cons_succ, i64_w, i32_w]
    rfl
  refine pure_ (i := 11) (N := (some 27)) (v := undef) (a' := ?_) (gate_Same.fl 34 12) rfl rfl (any_of HT_.out (by kernel_rfl)) (fun _ _ _ h => h) (Or.inr ⟨by rfl, rfl⟩) ?_ ?_
  rotate_left
  · simp only [Act.put, List.setIfInBounds_toArray, List.set_cons_zero, List.set_cons_succ, i64_w, i32_w]
    rfl
  refine pure_ (i := 12) (N := (some 28)) (v := undef) (a' := ?_) (gate_Same.fl 34 13) rfl rfl (any_of HT_.out (by kernel_rfl)) (fun _ _ _ h => h) (Or.inr ⟨by rfl, rfl⟩) ?_ ?_
  rotate_left
  · simp only [Act.put, List.setIfInBounds_toArray, List.set_cons_zero, List.set_cons_succ, i64_w, i32_w]
    rfl
  refine pure_ (i := 13) (N := (some 29)) (v := undef) (a' := ?_) (gate_Same.fl 34 14) rfl rfl (any_of HT_.out (by kernel_rfl)) (fun _ _ _ h => h) (Or.inr ⟨by rfl, rfl⟩) ?_ ?_
  rotate_left
  · simp only [Act.put, List.setIfInBounds_toArray, List.set_cons_zero, List.set_cons_succ, i64_w, i32_w]
    rfl
  refine pure_ (i := 14) (N := (some 30)) (v := undef) (a' := ?_) (gate_Same.fl 34 15) rfl rfl (any_of HT_.out (by kernel_rfl)) (fun _ _ _ h => h) (Or.inr ⟨by rfl, rfl⟩) ?_ ?_
  rotate_left
  · simp only [Act.put, List.setIfInBounds_toArray, List.set_cons_zero, List.set_cons_succ, i64_w, i32_w]
    rfl
  refine pure_ (i := 15) (N := (some 31)) (v := undef) (a' := ?_) (gate_Same.fl 34 16) rfl rfl (any_of HT_.out (by kernel_rfl)) (fun _ _ _ h => h) (Or.inr ⟨by rfl, rfl⟩) ?_ ?_
  rotate_left
  · simp only [Act.put, List.setIfInBounds_toArray, List.set_cons_zero, List.set_cons_succ, i64_w, i32_w]
    rfl
  refine pure_ (i := 16) (N := (some 32)) (v := undef) (a' := ?_) (gate_Same.fl 34 17) rfl rfl (any_of HT_.out (by kernel_rfl)) (fun _ _ _ h => h) (Or.inr ⟨by rfl, rfl⟩) ?_ ?_
  rotate_left
  · simp only [Act.put, List.setIfInBounds_toArray, List.set_cons_zero, List.set_cons_succ, i64_w, i32_w]
    rfl
  refine pure_ (i := 17) (N := (some 33)) (v := undef) (a' := ?_) (gate_Same.fl 34 18) rfl rfl (any_of HT_.out (by kernel_rfl)) (fun _ _ _ h => h) (Or.inr ⟨by rfl, rfl⟩) ?_ ?_
  rotate_left
  · simp only [Act.put, List.setIfInBounds_toArray, List.set_cons_zero, List.set_cons_succ, i64_w, i32_w]
    rfl
  refine pure_ (i := 18) (N := (some 34)) (v := ?_) (a' := ?_) (gate_Same.fl 34 19) rfl rfl (any_of HT_.out (by kernel_rfl)) (fun _ _ _ h => h) (Or.inl ⟨by rfl, ?_⟩) ?_ ?_
  rotate_left
  · intro w'
    go_simp
    with_reducible rfl
  rotate_left
  · simp only [Act.put, List.setIfInBounds_toArray, List.set_cons_zero, List.set_cons_succ, i64_w, i32_w]
    rfl
  refine pure_ (i := 19) (N := (some 35)) (v := ?_) (a' := ?_) (gate_Same.fl 34 20) rfl rfl (any_of HT_.out (by kernel_rfl)) (fun _ _ _ h => h) (Or.inl ⟨by rfl, ?_⟩) ?_ ?_
  rotate_left
  · intro w'
    go_simp
    with_reducible rfl
  rotate_left
  · simp only [Act.put, List.setIfInBounds_toArray, List.set_cons_zero, List.set_cons_succ, i64_w, i32_w]
    rfl
  refine pure_ (i := 20) (N := (some 36)) (v := undef) (a' := ?_) (gate_Same.fl 34 21) rfl rfl (any_of HT_.out (by kernel_rfl)) (fun _ _ _ h => h) (Or.inr ⟨by rfl, rfl⟩) ?_ ?_
  rotate_left
  · simp only [Act.put, List.setIfInBounds_toArray, List.set_cons_zero, List.set_cons_succ, i64_w, i32_w]
    rfl
  refine pure_ (i := 21) (N := (some 37)) (v := undef) (a' := ?_) (gate_Same.fl 34 22) rfl rfl (any_of HT_.out (by kernel_rfl)) (fun _ _ _ h => h) (Or.inr ⟨by rfl, rfl⟩) ?_ ?_
  rotate_left
  · simp only [Act.put, List.setIfInBounds_toArray, List.set_cons_zero, List.set_cons_succ, i64_w, i32_w]
    rfl
  refine pure_ (i := 22) (N := (some 38)) (v := undef) (a' := ?_) (gate_Same.fl 34 23) rfl rfl (any_of HT_.out (by kernel_rfl)) (fun _ _ _ h => h) (Or.inr ⟨by rfl, rfl⟩) ?_ ?_
  rotate_left
  · simp only [Act.put, List.setIfInBounds_toArray, List.set_cons_zero, List.set_cons_succ, i64_w, i32_w]
    rfl
  refine pure_ (i := 23) (N := (some 39)) (v := undef) (a' := ?_) (gate_Same.fl 34 24) rfl rfl (any_of HT_.out (by kernel_rfl)) (fun _ _ _ h => h) (Or.inr ⟨by rfl, rfl⟩) ?_ ?_
  rotate_left
  · simp only [Act.put, List.setIfInBounds_toArray, List.set_cons_zero, List.set_cons_succ, i64_w, i32_w]
    rfl
  refine pure_ (i := 24) (N := (some 40)) (v := undef) (a' := ?_) (gate_Same.fl 34 25) rfl rfl (any_of HT_.out (by kernel_rfl)) (fun _ _ _ h => h) (Or.inr ⟨by rfl, rfl⟩) ?_ ?_
  rotate_left
  · simp only [Act.put, List.setIfInBounds_toArray, List.set_cons_zero, List.set_cons_succ, i64_w, i32_w]
    rfl
  refine pure_ (i := 25) (N := (some 41)) (v := undef) (a' := ?_) (gate_Same.fl 34 26) rfl rfl (any_of HT_.out (by kernel_rfl)) (fun _ _ _ h => h) (Or.inr ⟨by rfl, rfl⟩) ?_ ?_
  rotate_left
  · simp only [Act.put, List.setIfInBounds_toArray, List.set_cons_zero, List.set_cons_succ, i64_w, i32_w]
    rfl
  refine pure_ (i := 26) (N := (some 42)) (v := undef) (a' := ?_) (gate_Same.fl 34 27) rfl rfl (any_of HT_.out (by kernel_rfl)) (fun _ _ _ h => h) (Or.inr ⟨by rfl, rfl⟩) ?_ ?_
  rotate_left
  · simp only [Act.put, List.setIfInBounds_toArray, List.set_cons_zero, List.set_cons_succ, i64_w, i32_w]
    rfl
  refine pure_ (i := 27) (N := (some 43)) (v := undef) (a' := ?_) (gate_Same.fl 34 28) rfl rfl (any_of HT_.out (by kernel_rfl)) (fun _ _ _ h => h) (Or.inr ⟨by rfl, rfl⟩) ?_ ?_
  rotate_left
  · simp only [Act.put, List.setIfInBounds_toArray, List.set_cons_zero, List.set_cons_succ, i64_w, i32_w]
    rfl
  refine pure_ (i := 28) (N := (some 44)) (v := undef) (a' := ?_) (gate_Same.fl 34 29) rfl rfl (any_of HT_.out (by kernel_rfl)) (fun _ _ _ h => h) (Or.inr ⟨by rfl, rfl⟩) ?_ ?_
  rotate_left
  · simp only [Act.put, List.setIfInBounds_toArray, List.set_cons_zero, List.set_cons_succ, i64_w, i32_w]
    rfl
  refine pure_ (i := 29) (N := (some 45)) (v := undef) (a' := ?_) (gate_Same.fl 34 30) rfl rfl (any_of HT_.out (by kernel_rfl)) (fun _ _ _ h => h) (Or.inr ⟨by rfl, rfl⟩) ?_ ?_
  rotate_left
  · simp only [Act.put, List.setIfInBounds_toArray, List.set_cons_zero, List.set_cons_succ, i64_w, i32_w]
    rfl
  refine pure_ (i := 30) (N := (some 46)) (v := undef) (a' := ?_) (gate_Same.fl 34 31) rfl rfl (any_of HT_.out (by kernel_rfl)) (fun _ _ _ h => h) (Or.inr ⟨by rfl, rfl⟩) ?_ ?_
  rotate_left
  · simp only [Act.put, List.setIfInBounds_toArray, List.set_cons_zero, List.set_cons_succ, i64_w, i32_w]
    rfl
  refine pure_ (i := 31) (N := (some 47)) (v := undef) (a' := ?_) (gate_Same.fl 34 32) rfl rfl (any_of HT_.out (by kernel_rfl)) (fun _ _ _ h => h) (Or.inr ⟨by rfl, rfl⟩) ?_ ?_
  rotate_left
  · simp only [Act.put, List.setIfInBounds_toArray, List.set_cons_zero, List.set_cons_succ, i64_w, i32_w]
    rfl
  refine pure_ (i := 32) (N := (some 48)) (v := undef) (a' := ?_) (gate_Same.fl 34 33) rfl rfl (any_of HT_.out (by kernel_rfl)) (fun _ _ _ h => h) (Or.inr ⟨by rfl, rfl⟩) ?_ ?_
  rotate_left
  · simp only [Act.put, List.setIfInBounds_toArray, List.set_cons_zero, List.set_cons_succ, i64_w, i32_w]
    rfl
  refine pure_ (i := 33) (N := (some 49)) (v := ?_) (a' := ?_) (gate_Same.fl 34 34) rfl rfl (any_of HT_.out (by kernel_rfl)) (fun _ _ _ h => h) (Or.inl ⟨by rfl, ?_⟩) ?_ ?_
  rotate_left
  · intro w'
    go_simp
    with_reducible rfl
  rotate_left
  · simp only [Act.put, List.setIfInBounds_toArray, List.set_cons_zero, List.set_cons_succ, i64_w, i32_w]
    rfl
  refine done_ (done_of HT_.out (by kernel_rfl)) ?_
  clear hHeld HT_ HW_
  go_wp2
  go_ret2
  exact ⟨rfl, HB.out.trans (HB3.out.mono HB.out.size)⟩
theorem same_nil3 (N : Nat) (b0 : Int) (A1 : Option Addr) (c1 : Nat) (l1 : List S40) (A2 : Option Addr) (c2 : Nat) (l2 : List Int) (B1 : Option Addr) (d1 : Nat) (m1 : List S40) (B2 : Option Addr) (d2 : Nat) (m2 : List Int) (w : World) (hr1 : Kd.C k40 w A1 l1.length l1) (hc1 : l1.length ≤ c1) (hr2 : Kd.C (Kd.int .i64) w A2 l2.length l2) (hc2 : l2.length ≤ c2) (hs1 : Kd.C k40 w B1 m1.length m1) (hd1 : m1.length ≤ d1) (hs2 : Kd.C (Kd.int .i64) w B2 m2.length m2) (hd2 : m2.length ≤ d2) (ha : okC (N : Int) l1 l2 = true) (hb : okC b0 m1 m2 = false) :
    Calls Try.prog 38 #[.agg #[.int .i64 (N : Int), .slice A1 l1.length c1, .slice A2 l2.length c2], .agg #[.int .i64 b0, .slice B1 m1.length d1, .slice B2 m2.length d2]] w fun e w' => e = .returned (.tuple #[.int .i64 0, .int .i64 2]) ∧ Below w.heap.size w w' := by
  obtain ⟨w0, hw0⟩ : ∃ w0, (w.alloc (.cells #[.int .i64 (N : Int), .slice A1 l1.length c1, .slice A2 l2.length c2] 25)).alloc (.cells #[.int .i64 b0, .slice B1 m1.length d1, .slice B2 m2.length d2] 25) = w0 := ⟨_, rfl⟩
  have HB := Aside0.mk (show Below w.heap.size w w0 by rw [← hw0]; exact below_alloc (below_alloc (Below.refl _ _) _) _)
  have hx : w0.heap[w.heap.size]? = some (.cells #[.int .i64 (N : Int), .slice A1 l1.length c1, .slice A2 l2.length c2] 25 (0, 0)) := by
    rw [← hw0]
    have h1 := heap_alloc_new w (.cells #[.int .i64 (N : Int), .slice A1 l1.length c1, .slice A2 l2.length c2] 25)
    have h2 : Below (w.alloc (.cells #[.int .i64 (N : Int), .slice A1 l1.length c1, .slice A2 l2.length c2] 25)).heap.size (w.alloc (.cells #[.int .i64 (N : Int), .slice A1 l1.length c1, .slice A2 l2.length c2] 25)) ((w.alloc (.cells #[.int .i64 (N : Int), .slice A1 l1.length c1, .slice A2 l2.length c2] 25)).alloc (.cells #[.int .i64 b0, .slice B1 m1.length d1, .slice B2 m2.length d2] 25)) := below_alloc (Below.refl _ _) _
    rw [h2.block _ (by rw [World.size_alloc]; omega)]
    exact h1
  have hy : w0.heap[w.heap.size + 1]? = some (.cells #[.int .i64 b0, .slice B1 m1.length d1, .slice B2 m2.length d2] 25 (0, 0)) := by
    rw [← hw0]
    have := heap_alloc_new (w.alloc (.cells #[.int .i64 (N : Int), .slice A1 l1.length c1, .slice A2 l2.length c2] 25)) (.cells #[.int .i64 b0, .slice B1 m1.length d1, .slice B2 m2.length d2] 25)
    rwa [World.size_alloc] at this
  have HX := Aside0.mk (fun W (h : Below w0.heap.size w0 W) => box_cells hx h)
  have HY := Aside0.mk (fun W (h : Below w0.heap.size w0 W) => box_cells hy h)
  have HO1 := Aside0.mk (fun W (h : Below w0.heap.size w0 W) => of_ok N l1 l2 A1 c1 A2 c2 W ha (Kd.C_below (Kd.C_below hr1 HB.out) h) hc1 (Kd.C_below (Kd.C_below hr2 HB.out) h) hc2)
  have HO2 := Aside0.mk (fun W (h : Below w0.heap.size w0 W) => of_no b0 m1 m2 B1 d1 B2 d2 W hb (Kd.C_below (Kd.C_below hs1 HB.out) h) hd1 (Kd.C_below (Kd.C_below hs2 HB.out) h) hd2)
  clear hr1 hr2 hs1 hs2 hx hy ha hb
  go_enter Try.func38, Try.ntmps38
  go_wp2
  try rw [hw0]
  have HB0 := Aside0.mk (below_drew1 (Below.refl w0.heap.size w0))
  refine start_ (n := 6) (S := fun w' => w'.cell? ⟨w.heap.size, 0, none⟩ = some (.int .i64 (N : Int)) ∧ w'.cell? ⟨w.heap.size, 1, none⟩ = some (.slice A1 l1.length c1) ∧ w'.cell? ⟨w.heap.size, 2, none⟩ = some (.slice A2 l2.length c2) ∧ w'.cell? ⟨w.heap.size + 1, 0, none⟩ = some (.int .i64 b0) ∧ w'.cell? ⟨w.heap.size + 1, 1, none⟩ = some (.slice B1 m1.length d1) ∧ w'.cell? ⟨w.heap.size + 1, 2, none⟩ = some (.slice B2 m2.length d2)) (ds := []) (gate_Same.fl 6 0) (by kernel_rfl) rfl rfl ⟨(HX.out _ HB0.out).1, (HX.out _ HB0.out).2.1, (HX.out _ HB0.out).2.2, (HY.out _ HB0.out).1, (HY.out _ HB0.out).2.1, (HY.out _ HB0.out).2.2⟩ (fun hHeld => ?_)
  refine with_tabW gate_Same.tab1 gate_Same.bits1 (fun HT_ HW_ => ?_)
  generalize w0.drew = wa at HB0 hHeld ⊢
  refine take_ (i := 0) (N := (some 12)) (v := ?_) (a' := ?_) (gate_Same.fl 6 1) rfl rfl (take_ofW HT_.out HW_.out (by kernel_rfl)) (fun _ _ _ h => h) (Or.inl ⟨by rfl, ?_⟩) hHeld ?_ ?_
  rotate_left
  · rintro w' ⟨s0, s1, s2, s3, s4, s5⟩
    go_simp
    with_reducible rfl
  rotate_left
  · simp only [Act.put, List.setIfInBounds_toArray, List.set_cons_zero, List.set_cons_succ, i64_w, i32_w]
    rfl
  refine take_ (i := 2) (N := (some 14)) (v := ?_) (a' := ?_) #[true, false, true, false, false, false] rfl rfl (take_ofW HT_.out HW_.out (by kernel_rfl)) (fun _ _ _ h => h) (Or.inl ⟨by rfl, ?_⟩) hHeld ?_ ?_
  rotate_left
  · rintro w' ⟨s0, s1, s2, s3, s4, s5⟩
    go_simp
    with_reducible rfl
  rotate_left
  · simp only [Act.put, List.setIfInBounds_toArray, List.set_cons_zero, List.set_cons_succ, i64_w, i32_w]
    rfl
  refine one_ (i := 1) (N := (some 13)) (gate_Same.fl 6 3) rfl rfl (one_of HT_.out (by kernel_rfl)) (by decide) (fun K hK => ?_)
  refine goes_ Try.func54 (by kernel_rfl) rfl #[.agg #[.int .i64 (N : Int), .slice A1 l1.length c1, .slice A2 l2.length c2]] (by rfl) rfl rfl (by (try simp only [List.map_toArray, List.map_cons, List.map_nil]); first | done | rfl | (simp only [List.length_drop, List.length_take]; rfl)) ?_
  refine (HO1.out _ HB0.out).mono ?_
  rintro e w1 ⟨gx, rfl, hC1, hb1⟩
  refine ⟨_, rfl, ?_⟩
  have HB1 := Aside0.mk (below_step HB0.out hb1)
  have HC1 := Aside0.mk hC1
  clear hC1
  clear hb1
  refine hK.out _ _ ⟨(HX.out _ HB1.out).1, (HX.out _ HB1.out).2.1, (HX.out _ HB1.out).2.2, (HY.out _ HB1.out).1, (HY.out _ HB1.out).2.1, (HY.out _ HB1.out).2.2⟩ (fun hHeld => ?_)
  clear hK K
  refine norm_ (a' := ?_) ?_ ?_
  rotate_left
  · show Act.put _ (some 13) _ = _
    simp only [Act.put, List.setIfInBounds_toArray, List.set_cons_zero, List.set_cons_succ, i64_w, i32_w]
    rfl
  refine one_ (i := 3) (N := (some 15)) (gate_Same.fl 6 4) rfl rfl (one_of HT_.out (by kernel_rfl)) (by decide) (fun K hK => ?_)
  refine goes_ Try.func54 (by kernel_rfl) rfl #[.agg #[.int .i64 b0, .slice B1 m1.length d1, .slice B2 m2.length d2]] (by rfl) rfl rfl (by (try simp only [List.map_toArray, List.map_cons, List.map_nil]); first | done | rfl | (simp only [List.length_drop, List.length_take]; rfl)) ?_
  refine (HO2.out _ HB1.out).mono ?_
  rintro e w2 ⟨rfl, hb2⟩
  refine ⟨_, rfl, ?_⟩
  have HB2 := Aside0.mk (below_step HB1.out hb2)
  have HC1' := Aside0.mk (HC1.out.keep hb2)
  clear hb2
  refine hK.out _ _ ⟨(HX.out _ HB2.out).1, (HX.out _ HB2.out).2.1, (HX.out _ HB2.out).2.2, (HY.out _ HB2.out).1, (HY.out _ HB2.out).2.1, (HY.out _ HB2.out).2.2⟩ (fun hHeld => ?_)
  clear hK K
  refine norm_ (a' := ?_) ?_ ?_
  rotate_left
  · show Act.put _ (some 15) _ = _
    simp only [Act.put, List.setIfInBounds_toArray, List.set_cons_zero, List.set_cons_succ, i64_w, i32_w]
    rfl
  refine pure_ (i := 4) (N := (some 6)) (v := ?_) (a' := ?_) (gate_Same.fl 6 5) rfl rfl (any_of HT_.out (by kernel_rfl)) (fun _ _ _ h => h) (Or.inl ⟨by rfl, ?_⟩) ?_ ?_
  rotate_left
  · intro w'
    go_simp
    with_reducible rfl
  rotate_left
  · simp only [Act.put, List.setIfInBounds_toArray, List.set_cons_zero, List.set_cons_succ, i64_w, i32_w]
    rfl
  refine pure_ (i := 5) (N := (some 7)) (v := ?_) (a' := ?_) (gate_Same.fl 6 6) rfl rfl (any_of HT_.out (by kernel_rfl)) (fun _ _ _ h => h) (Or.inl ⟨by rfl, ?_⟩) ?_ ?_
  rotate_left
  · intro w'
    go_simp
    with_reducible rfl
  rotate_left
  · simp only [Act.put, List.setIfInBounds_toArray, List.set_cons_zero, List.set_cons_succ, i64_w, i32_w]
    rfl
  refine done_ (done_of HT_.out (by kernel_rfl)) ?_
  clear hHeld HT_ HW_
  try go_wp2
  have HB3 := Aside0.mk (below_drew1 HB2.out)
  refine start_ (n := 34) (S := fun w' => True) (ds := []) (gate_Same.fl 34 0) (by kernel_rfl) rfl rfl trivial (fun hHeld => ?_)
  refine with_tabW gate_Same.tab2 gate_Same.bits2 (fun HT_ HW_ => ?_)
  generalize w2.drew = wb at HB3 hHeld ⊢
  refine pure_ (i := 0) (N := (some 16)) (v := ?_) (a' := ?_) (gate_Same.fl 34 1) rfl rfl (any_of HT_.out (by kernel_rfl)) (fun _ _ _ h => h) (Or.inl ⟨by rfl, ?_⟩) ?_ ?_
  rotate_left
  · intro w'
    go_simp
    with_reducible rfl
  rotate_left
  · simp only [Act.put, List.setIfInBounds_toArray, List.set_cons_zero, List.set_cons_succ, i64_w, i32_w]
    rfl
  refine pure_ (i := 1) (N := (some 17)) (v := ?_) (a' := ?_) (gate_Same.fl 34 2) rfl rfl (any_of HT_.out (by kernel_rfl)) (fun _ _ _ h => h) (Or.inl ⟨by rfl, ?_⟩) ?_ ?_
  rotate_left
  · intro w'
    go_simp
    with_reducible rfl
  rotate_left
  · simp only [Act.put, List.setIfInBounds_toArray, List.set_cons_zero, List.set_cons_succ, i64_w, i32_w]
    rfl
  refine pure_ (i := 2) (N := (some 18)) (v := ?_) (a' := ?_) (gate_Same.fl 34 3) rfl rfl (any_of HT_.out (by kernel_rfl)) (fun _ _ _ h => h) (Or.inl ⟨by rfl, ?_⟩) ?_ ?_
  rotate_left
  · intro w'
    go_simp
    with_reducible rfl
  rotate_left
  · simp only [Act.put, List.setIfInBounds_toArray, List.set_cons_zero, List.set_cons_succ, i64_w, i32_w]
    rfl
  refine pure_ (i := 3) (N := (some 19)) (v := ?_) (a' := ?_) (gate_Same.fl 34 4) rfl rfl (any_of HT_.out (by kernel_rfl)) (fun _ _ _ h => h) (Or.inl ⟨by rfl, ?_⟩) ?_ ?_
  rotate_left
  · intro w'
    go_simp
    with_reducible rfl
  rotate_left
  · simp only [Act.put, List.setIfInBounds_toArray, List.set_cons_zero, List.set_cons_succ, i64_w, i32_w]
    rfl
  refine pure_ (i := 4) (N := (some 20)) (v := ?_) (a' := ?_) (gate_Same.fl 34 5) rfl rfl (any_of HT_.out (by kernel_rfl)) (fun _ _ _ h => h) (Or.inl ⟨by rfl, ?_⟩) ?_ ?_
  rotate_left
  · intro w'
    go_simp
    with_reducible rfl
  rotate_left
  · simp only [Act.put, List.setIfInBounds_toArray, List.set_cons_zero, List.set_cons_succ, i64_w, i32_w]
    rfl
  refine pure_ (i := 5) (N := (some 21)) (v := ?_) (a' := ?_) (gate_Same.fl 34 6) rfl rfl (any_of HT_.out (by kernel_rfl)) (fun _ _ _ h => h) (Or.inl ⟨by rfl, ?_⟩) ?_ ?_
  rotate_left
  · intro w'
    go_simp
    with_reducible rfl
  rotate_left
  · simp only [Act.put, List.setIfInBounds_toArray, List.set_cons_zero, List.set_cons_succ, i64_w, i32_w]
    rfl
  refine pure_ (i := 6) (N := (some 22)) (v := ?_) (a' := ?_) (gate_Same.fl 34 7) rfl rfl (any_of HT_.out (by kernel_rfl)) (fun _ _ _ h => h) (Or.inl ⟨by rfl, ?_⟩) ?_ ?_
  rotate_left
  · intro w'
    go_simp
    with_reducible rfl
  rotate_left
  · simp only [Act.put, List.setIfInBounds_toArray, List.set_cons_zero, List.set_cons_succ, i64_w, i32_w]
    rfl
  refine pure_ (i := 7) (N := (some 23)) (v := undef) (a' := ?_) (gate_Same.fl 34 8) rfl rfl (any_of HT_.out (by kernel_rfl)) (fun _ _ _ h => h) (Or.inr ⟨by rfl, rfl⟩) ?_ ?_
  rotate_left
  · simp only [Act.put, List.setIfInBounds_toArray, List.set_cons_zero, List.set_cons_succ, i64_w, i32_w]
    rfl
  refine pure_ (i := 8) (N := (some 24)) (v := undef) (a' := ?_) (gate_Same.fl 34 9) rfl rfl (any_of HT_.out (by kernel_rfl)) (fun _ _ _ h => h) (Or.inr ⟨by rfl, rfl⟩) ?_ ?_
  rotate_left
  · simp only [Act.put, List.setIfInBounds_toArray, List.set_cons_zero, List.set_cons_succ, i64_w, i32_w]
    rfl
  refine pure_ (i := 9) (N := (some 25)) (v := undef) (a' := ?_) (gate_Same.fl 34 10) rfl rfl (any_of HT_.out (by kernel_rfl)) (fun _ _ _ h => h) (Or.inr ⟨by rfl, rfl⟩) ?_ ?_
  rotate_left
  · simp only [Act.put, List.setIfInBounds_toArray, List.set_cons_zero, List.set_cons_succ, i64_w, i32_w]
    rfl
  refine pure_ (i := 10) (N := (some 26)) (v := undef) (a' := ?_) (gate_Same.fl 34 11) rfl rfl (any_of HT_.out (by kernel_rfl)) (fun _ _ _ h => h) (Or.inr ⟨by rfl, rfl⟩) ?_ ?_
  rotate_left
  · simp only [Act.put, List.setIfInBounds_toArray, List.set_cons_zero, List.set_cons_succ, i64_w, i32_w]
    rfl
  refine pure_ (i := 11) (N := (some 27)) (v := undef) (a' := ?_) (gate_Same.fl 34 12) rfl rfl (any_of HT_.out (by kernel_rfl)) (fun _ _ _ h => h) (Or.inr ⟨by rfl, rfl⟩) ?_ ?_
  rotate_left
  · simp only [Act.put, List.setIfInBounds_toArray, List.set_cons_zero, List.set_cons_succ, i64_w, i32_w]
    rfl
  refine pure_ (i := 12) (N := (some 28)) (v := undef) (a' := ?_) (gate_Same.fl 34 13) rfl rfl (any_of HT_.out (by kernel_rfl)) (fun _ _ _ h => h) (Or.inr ⟨by rfl, rfl⟩) ?_ ?_
  rotate_left
  · simp only [Act.put, List.setIfInBounds_toArray, List.set_cons_zero, List.set_cons_succ, i64_w, i32_w]
    rfl
  refine pure_ (i := 13) (N := (some 29)) (v := undef) (a' := ?_) (gate_Same.fl 34 14) rfl rfl (any_of HT_.out (by kernel_rfl)) (fun _ _ _ h => h) (Or.inr ⟨by rfl, rfl⟩) ?_ ?_
  rotate_left
  · simp only [Act.put, List.setIfInBounds_toArray, List.set_cons_zero, List.set_cons_succ, i64_w, i32_w]
    rfl
  refine pure_ (i := 14) (N := (some 30)) (v := undef) (a' := ?_) (gate_Same.fl 34 15) rfl rfl (any_of HT_.out (by kernel_rfl)) (fun _ _ _ h => h) (Or.inr ⟨by rfl, rfl⟩) ?_ ?_
  rotate_left
  · simp only [Act.put, List.setIfInBounds_toArray, List.set_cons_zero, List.set_cons_succ, i64_w, i32_w]
    rfl
  refine pure_ (i := 15) (N := (some 31)) (v := undef) (a' := ?_) (gate_Same.fl 34 16) rfl rfl (any_of HT_.out (by kernel_rfl)) (fun _ _ _ h => h) (Or.inr ⟨by rfl, rfl⟩) ?_ ?_
  rotate_left
  · simp only [Act.put, List.setIfInBounds_toArray, List.set_cons_zero, List.set_cons_succ, i64_w, i32_w]
    rfl
  refine pure_ (i := 16) (N := (some 32)) (v := undef) (a' := ?_) (gate_Same.fl 34 17) rfl rfl (any_of HT_.out (by kernel_rfl)) (fun _ _ _ h => h) (Or.inr ⟨by rfl, rfl⟩) ?_ ?_
  rotate_left
  · simp only [Act.put, List.setIfInBounds_toArray, List.set_cons_zero, List.set_cons_succ, i64_w, i32_w]
    rfl
  refine pure_ (i := 17) (N := (some 33)) (v := undef) (a' := ?_) (gate_Same.fl 34 18) rfl rfl (any_of HT_.out (by kernel_rfl)) (fun _ _ _ h => h) (Or.inr ⟨by rfl, rfl⟩) ?_ ?_
  rotate_left
  · simp only [Act.put, List.setIfInBounds_toArray, List.set_cons_zero, List.set_cons_succ, i64_w, i32_w]
    rfl
  refine pure_ (i := 18) (N := (some 34)) (v := ?_) (a' := ?_) (gate_Same.fl 34 19) rfl rfl (any_of HT_.out (by kernel_rfl)) (fun _ _ _ h => h) (Or.inl ⟨by rfl, ?_⟩) ?_ ?_
  rotate_left
  · intro w'
    go_simp
    with_reducible rfl
  rotate_left
  · simp only [Act.put, List.setIfInBounds_toArray, List.set_cons_zero, List.set_cons_succ, i64_w, i32_w]
    rfl
  refine pure_ (i := 19) (N := (some 35)) (v := ?_) (a' := ?_) (gate_Same.fl 34 20) rfl rfl (any_of HT_.out (by kernel_rfl)) (fun _ _ _ h => h) (Or.inl ⟨by rfl, ?_⟩) ?_ ?_
  rotate_left
  · intro w'
    go_simp
    with_reducible rfl
  rotate_left
  · simp only [Act.put, List.setIfInBounds_toArray, List.set_cons_zero, List.set_cons_succ, i64_w, i32_w]
    rfl
  refine pure_ (i := 20) (N := (some 36)) (v := undef) (a' := ?_) (gate_Same.fl 34 21) rfl rfl (any_of HT_.out (by kernel_rfl)) (fun _ _ _ h => h) (Or.inr ⟨by rfl, rfl⟩) ?_ ?_
  rotate_left
  · simp only [Act.put, List.setIfInBounds_toArray, List.set_cons_zero, List.set_cons_succ, i64_w, i32_w]
    rfl
  refine pure_ (i := 21) (N := (some 37)) (v := undef) (a' := ?_) (gate_Same.fl 34 22) rfl rfl (any_of HT_.out (by kernel_rfl)) (fun _ _ _ h => h) (Or.inr ⟨by rfl, rfl⟩) ?_ ?_
  rotate_left
  · simp only [Act.put, List.setIfInBounds_toArray, List.set_cons_zero, List.set_cons_succ, i64_w, i32_w]
    rfl
  refine pure_ (i := 22) (N := (some 38)) (v := undef) (a' := ?_) (gate_Same.fl 34 23) rfl rfl (any_of HT_.out (by kernel_rfl)) (fun _ _ _ h => h) (Or.inr ⟨by rfl, rfl⟩) ?_ ?_
  rotate_left
  · simp only [Act.put, List.setIfInBounds_toArray, List.set_cons_zero, List.set_cons_succ, i64_w, i32_w]
    rfl
  refine pure_ (i := 23) (N := (some 39)) (v := undef) (a' := ?_) (gate_Same.fl 34 24) rfl rfl (any_of HT_.out (by kernel_rfl)) (fun _ _ _ h => h) (Or.inr ⟨by rfl, rfl⟩) ?_ ?_
  rotate_left
  · simp only [Act.put, List.setIfInBounds_toArray, List.set_cons_zero, List.set_cons_succ, i64_w, i32_w]
    rfl
  refine pure_ (i := 24) (N := (some 40)) (v := undef) (a' := ?_) (gate_Same.fl 34 25) rfl rfl (any_of HT_.out (by kernel_rfl)) (fun _ _ _ h => h) (Or.inr ⟨by rfl, rfl⟩) ?_ ?_
  rotate_left
  · simp only [Act.put, List.setIfInBounds_toArray, List.set_cons_zero, List.set_cons_succ, i64_w, i32_w]
    rfl
  refine pure_ (i := 25) (N := (some 41)) (v := undef) (a' := ?_) (gate_Same.fl 34 26) rfl rfl (any_of HT_.out (by kernel_rfl)) (fun _ _ _ h => h) (Or.inr ⟨by rfl, rfl⟩) ?_ ?_
  rotate_left
  · simp only [Act.put, List.setIfInBounds_toArray, List.set_cons_zero, List.set_cons_succ, i64_w, i32_w]
    rfl
  refine pure_ (i := 26) (N := (some 42)) (v := undef) (a' := ?_) (gate_Same.fl 34 27) rfl rfl (any_of HT_.out (by kernel_rfl)) (fun _ _ _ h => h) (Or.inr ⟨by rfl, rfl⟩) ?_ ?_
  rotate_left
  · simp only [Act.put, List.setIfInBounds_toArray, List.set_cons_zero, List.set_cons_succ, i64_w, i32_w]
    rfl
  refine pure_ (i := 27) (N := (some 43)) (v := undef) (a' := ?_) (gate_Same.fl 34 28) rfl rfl (any_of HT_.out (by kernel_rfl)) (fun _ _ _ h => h) (Or.inr ⟨by rfl, rfl⟩) ?_ ?_
  rotate_left
  · simp only [Act.put, List.setIfInBounds_toArray, List.set_cons_zero, List.set_cons_succ, i64_w, i32_w]
    rfl
  refine pure_ (i := 28) (N := (some 44)) (v := undef) (a' := ?_) (gate_Same.fl 34 29) rfl rfl (any_of HT_.out (by kernel_rfl)) (fun _ _ _ h => h) (Or.inr ⟨by rfl, rfl⟩) ?_ ?_
  rotate_left
  · simp only [Act.put, List.setIfInBounds_toArray, List.set_cons_zero, List.set_cons_succ, i64_w, i32_w]
    rfl
  refine pure_ (i := 29) (N := (some 45)) (v := undef) (a' := ?_) (gate_Same.fl 34 30) rfl rfl (any_of HT_.out (by kernel_rfl)) (fun _ _ _ h => h) (Or.inr ⟨by rfl, rfl⟩) ?_ ?_
  rotate_left
  · simp only [Act.put, List.setIfInBounds_toArray, List.set_cons_zero, List.set_cons_succ, i64_w, i32_w]
    rfl
  refine pure_ (i := 30) (N := (some 46)) (v := undef) (a' := ?_) (gate_Same.fl 34 31) rfl rfl (any_of HT_.out (by kernel_rfl)) (fun _ _ _ h => h) (Or.inr ⟨by rfl, rfl⟩) ?_ ?_
  rotate_left
  · simp only [Act.put, List.setIfInBounds_toArray, List.set_cons_zero, List.set_cons_succ, i64_w, i32_w]
    rfl
  refine pure_ (i := 31) (N := (some 47)) (v := undef) (a' := ?_) (gate_Same.fl 34 32) rfl rfl (any_of HT_.out (by kernel_rfl)) (fun _ _ _ h => h) (Or.inr ⟨by rfl, rfl⟩) ?_ ?_
  rotate_left
  · simp only [Act.put, List.setIfInBounds_toArray, List.set_cons_zero, List.set_cons_succ, i64_w, i32_w]
    rfl
  refine pure_ (i := 32) (N := (some 48)) (v := undef) (a' := ?_) (gate_Same.fl 34 33) rfl rfl (any_of HT_.out (by kernel_rfl)) (fun _ _ _ h => h) (Or.inr ⟨by rfl, rfl⟩) ?_ ?_
  rotate_left
  · simp only [Act.put, List.setIfInBounds_toArray, List.set_cons_zero, List.set_cons_succ, i64_w, i32_w]
    rfl
  refine pure_ (i := 33) (N := (some 49)) (v := ?_) (a' := ?_) (gate_Same.fl 34 34) rfl rfl (any_of HT_.out (by kernel_rfl)) (fun _ _ _ h => h) (Or.inl ⟨by rfl, ?_⟩) ?_ ?_
  rotate_left
  · intro w'
    go_simp
    with_reducible rfl
  rotate_left
  · simp only [Act.put, List.setIfInBounds_toArray, List.set_cons_zero, List.set_cons_succ, i64_w, i32_w]
    rfl
  refine done_ (done_of HT_.out (by kernel_rfl)) ?_
  clear hHeld HT_ HW_
  go_wp2
  go_ret2
  exact ⟨rfl, HB.out.trans (HB3.out.mono HB.out.size)⟩
theorem same_ne (N M p q : Nat) (A1 : Option Addr) (c1 : Nat) (l1 : List S40) (A2 : Option Addr) (c2 : Nat) (l2 : List Int) (B1 : Option Addr) (d1 : Nat) (m1 : List S40) (B2 : Option Addr) (d2 : Nat) (m2 : List Int) (w : World) (hr1 : Kd.C k40 w A1 l1.length l1) (hc1 : l1.length ≤ c1) (hr2 : Kd.C (Kd.int .i64) w A2 l2.length l2) (hc2 : l2.length ≤ c2) (hs1 : Kd.C k40 w B1 m1.length m1) (hd1 : m1.length ≤ d1) (hs2 : Kd.C (Kd.int .i64) w B2 m2.length m2) (hd2 : m2.length ≤ d2) (ha : okC (N : Int) l1 l2 = true) (hb : okC (M : Int) m1 m2 = true) (hp : l2.length = p) (hq : m2.length = q) (hne : N ≠ M) :
    Calls Try.prog 38 #[.agg #[.int .i64 (N : Int), .slice A1 l1.length c1, .slice A2 l2.length c2], .agg #[.int .i64 (M : Int), .slice B1 m1.length d1, .slice B2 m2.length d2]] w fun e w' => e = .returned (.tuple #[.int .i64 0, .int .i64 2]) ∧ Below w.heap.size w w' := by
  obtain ⟨w0, hw0⟩ : ∃ w0, (w.alloc (.cells #[.int .i64 (N : Int), .slice A1 l1.length c1, .slice A2 l2.length c2] 25)).alloc (.cells #[.int .i64 (M : Int), .slice B1 m1.length d1, .slice B2 m2.length d2] 25) = w0 := ⟨_, rfl⟩
  have HB := Aside0.mk (show Below w.heap.size w w0 by rw [← hw0]; exact below_alloc (below_alloc (Below.refl _ _) _) _)
  have hx : w0.heap[w.heap.size]? = some (.cells #[.int .i64 (N : Int), .slice A1 l1.length c1, .slice A2 l2.length c2] 25 (0, 0)) := by
    rw [← hw0]
    have h1 := heap_alloc_new w (.cells #[.int .i64 (N : Int), .slice A1 l1.length c1, .slice A2 l2.length c2] 25)
    have h2 : Below (w.alloc (.cells #[.int .i64 (N : Int), .slice A1 l1.length c1, .slice A2 l2.length c2] 25)).heap.size (w.alloc (.cells #[.int .i64 (N : Int), .slice A1 l1.length c1, .slice A2 l2.length c2] 25)) ((w.alloc (.cells #[.int .i64 (N : Int), .slice A1 l1.length c1, .slice A2 l2.length c2] 25)).alloc (.cells #[.int .i64 (M : Int), .slice B1 m1.length d1, .slice B2 m2.length d2] 25)) := below_alloc (Below.refl _ _) _
    rw [h2.block _ (by rw [World.size_alloc]; omega)]
    exact h1
  have hy : w0.heap[w.heap.size + 1]? = some (.cells #[.int .i64 (M : Int), .slice B1 m1.length d1, .slice B2 m2.length d2] 25 (0, 0)) := by
    rw [← hw0]
    have := heap_alloc_new (w.alloc (.cells #[.int .i64 (N : Int), .slice A1 l1.length c1, .slice A2 l2.length c2] 25)) (.cells #[.int .i64 (M : Int), .slice B1 m1.length d1, .slice B2 m2.length d2] 25)
    rwa [World.size_alloc] at this
  have HX := Aside0.mk (fun W (h : Below w0.heap.size w0 W) => box_cells hx h)
  have HY := Aside0.mk (fun W (h : Below w0.heap.size w0 W) => box_cells hy h)
  have HO1 := Aside0.mk (fun W (h : Below w0.heap.size w0 W) => of_ok N l1 l2 A1 c1 A2 c2 W ha (Kd.C_below (Kd.C_below hr1 HB.out) h) hc1 (Kd.C_below (Kd.C_below hr2 HB.out) h) hc2)
  have HO2 := Aside0.mk (fun W (h : Below w0.heap.size w0 W) => of_ok M m1 m2 B1 d1 B2 d2 W hb (Kd.C_below (Kd.C_below hs1 HB.out) h) hd1 (Kd.C_below (Kd.C_below hs2 HB.out) h) hd2)
  have e1 : ((N : Int) != (M : Int)) = true := bne_iff_ne.2 (by omega)
  have e2 : ((N : Int) == (M : Int)) = false := beq_eq_false_iff_ne.2 (by omega)
  have e3 : (N == M) = false := beq_eq_false_iff_ne.2 hne
  have e4 : decide ((N : Int) = (M : Int)) = false := decide_eq_false (by omega)
  have e5 : decide (N = M) = false := decide_eq_false hne
  have HP := Aside0.mk hp
  have HQ := Aside0.mk hq
  clear hp hq hr1 hr2 hs1 hs2 hx hy ha hb
  go_enter Try.func38, Try.ntmps38
  go_wp2
  try rw [hw0]
  have HB0 := Aside0.mk (below_drew1 (Below.refl w0.heap.size w0))
  refine start_ (n := 6) (S := fun w' => w'.cell? ⟨w.heap.size, 0, none⟩ = some (.int .i64 (N : Int)) ∧ w'.cell? ⟨w.heap.size, 1, none⟩ = some (.slice A1 l1.length c1) ∧ w'.cell? ⟨w.heap.size, 2, none⟩ = some (.slice A2 l2.length c2) ∧ w'.cell? ⟨w.heap.size + 1, 0, none⟩ = some (.int .i64 (M : Int)) ∧ w'.cell? ⟨w.heap.size + 1, 1, none⟩ = some (.slice B1 m1.length d1) ∧ w'.cell? ⟨w.heap.size + 1, 2, none⟩ = some (.slice B2 m2.length d2)) (ds := []) (gate_Same.fl 6 0) (by kernel_rfl) rfl rfl ⟨(HX.out _ HB0.out).1, (HX.out _ HB0.out).2.1, (HX.out _ HB0.out).2.2, (HY.out _ HB0.out).1, (HY.out _ HB0.out).2.1, (HY.out _ HB0.out).2.2⟩ (fun hHeld => ?_)
  refine with_tabW gate_Same.tab1 gate_Same.bits1 (fun HT_ HW_ => ?_)
  generalize w0.drew = wa at HB0 hHeld ⊢
  refine take_ (i := 0) (N := (some 12)) (v := ?_) (a' := ?_) (gate_Same.fl 6 1) rfl rfl (take_ofW HT_.out HW_.out (by kernel_rfl)) (fun _ _ _ h => h) (Or.inl ⟨by rfl, ?_⟩) hHeld ?_ ?_
  rotate_left
  · rintro w' ⟨s0, s1, s2, s3, s4, s5⟩
    go_simp
    with_reducible rfl
  rotate_left
  · simp only [Act.put, List.setIfInBounds_toArray, List.set_cons_zero, List.set_cons_succ, i64_w, i32_w]
    rfl
  refine take_ (i := 2) (N := (some 14)) (v := ?_) (a' := ?_) #[true, false, true, false, false, false] rfl rfl (take_ofW HT_.out HW_.out (by kernel_rfl)) (fun _ _ _ h => h) (Or.inl ⟨by rfl, ?_⟩) hHeld ?_ ?_
  rotate_left
  · rintro w' ⟨s0, s1, s2, s3, s4, s5⟩
    go_simp
    with_reducible rfl
  rotate_left
  · simp only [Act.put, List.setIfInBounds_toArray, List.set_cons_zero, List.set_cons_succ, i64_w, i32_w]
    rfl
  refine one_ (i := 1) (N := (some 13)) (gate_Same.fl 6 3) rfl rfl (one_of HT_.out (by kernel_rfl)) (by decide) (fun K hK => ?_)
  refine goes_ Try.func54 (by kernel_rfl) rfl #[.agg #[.int .i64 (N : Int), .slice A1 l1.length c1, .slice A2 l2.length c2]] (by rfl) rfl rfl (by (try simp only [List.map_toArray, List.map_cons, List.map_nil]); first | done | rfl | (simp only [List.length_drop, List.length_take]; rfl)) ?_
  refine (HO1.out _ HB0.out).mono ?_
  rintro e w1 ⟨gx, rfl, hC1, hb1⟩
  refine ⟨_, rfl, ?_⟩
  have HB1 := Aside0.mk (below_step HB0.out hb1)
  have HC1 := Aside0.mk hC1
  clear hC1
  clear hb1
  refine hK.out _ _ ⟨(HX.out _ HB1.out).1, (HX.out _ HB1.out).2.1, (HX.out _ HB1.out).2.2, (HY.out _ HB1.out).1, (HY.out _ HB1.out).2.1, (HY.out _ HB1.out).2.2⟩ (fun hHeld => ?_)
  clear hK K
  refine norm_ (a' := ?_) ?_ ?_
  rotate_left
  · show Act.put _ (some 13) _ = _
    simp only [Act.put, List.setIfInBounds_toArray, List.set_cons_zero, List.set_cons_succ, i64_w, i32_w]
    rfl
  refine one_ (i := 3) (N := (some 15)) (gate_Same.fl 6 4) rfl rfl (one_of HT_.out (by kernel_rfl)) (by decide) (fun K hK => ?_)
  refine goes_ Try.func54 (by kernel_rfl) rfl #[.agg #[.int .i64 (M : Int), .slice B1 m1.length d1, .slice B2 m2.length d2]] (by rfl) rfl rfl (by (try simp only [List.map_toArray, List.map_cons, List.map_nil]); first | done | rfl | (simp only [List.length_drop, List.length_take]; rfl)) ?_
  refine (HO2.out _ HB1.out).mono ?_
  rintro e w2 ⟨gy, rfl, hC2, hb2⟩
  refine ⟨_, rfl, ?_⟩
  have HB2 := Aside0.mk (below_step HB1.out hb2)
  have HC2 := Aside0.mk hC2
  clear hC2
  have HC1' := Aside0.mk (HC1.out.keep hb2)
  clear hb2
  refine hK.out _ _ ⟨(HX.out _ HB2.out).1, (HX.out _ HB2.out).2.1, (HX.out _ HB2.out).2.2, (HY.out _ HB2.out).1, (HY.out _ HB2.out).2.1, (HY.out _ HB2.out).2.2⟩ (fun hHeld => ?_)
  clear hK K
  refine norm_ (a' := ?_) ?_ ?_
  rotate_left
  · show Act.put _ (some 15) _ = _
    simp only [Act.put, List.setIfInBounds_toArray, List.set_cons_zero, List.set_cons_succ, i64_w, i32_w]
    rfl
  refine pure_ (i := 4) (N := (some 6)) (v := ?_) (a' := ?_) (gate_Same.fl 6 5) rfl rfl (any_of HT_.out (by kernel_rfl)) (fun _ _ _ h => h) (Or.inl ⟨by rfl, ?_⟩) ?_ ?_
  rotate_left
  · intro w'
    go_simp
    with_reducible rfl
  rotate_left
  · simp only [Act.put, List.setIfInBounds_toArray, List.set_cons_zero, List.set_cons_succ, i64_w, i32_w]
    rfl
  refine pure_ (i := 5) (N := (some 7)) (v := ?_) (a' := ?_) (gate_Same.fl 6 6) rfl rfl (any_of HT_.out (by kernel_rfl)) (fun _ _ _ h => h) (Or.inl ⟨by rfl, ?_⟩) ?_ ?_
  rotate_left
  · intro w'
    go_simp
    with_reducible rfl
  rotate_left
  · simp only [Act.put, List.setIfInBounds_toArray, List.set_cons_zero, List.set_cons_succ, i64_w, i32_w]
    rfl
  refine done_ (done_of HT_.out (by kernel_rfl)) ?_
  clear hHeld HT_ HW_
  try go_wp2
  obtain ⟨Ax, cx, x0, x2⟩ := (HC1'.out.keep (below_drew1 (Below.refl _ _))).now
  obtain ⟨Ay, cy, y0, y2⟩ := (HC2.out.keep (below_drew1 (Below.refl _ _))).now
  rw [HP.out] at x2
  rw [HQ.out] at y2
  try go_wp2
  have HB3 := Aside0.mk (below_drew1 HB2.out)
  refine start_ (n := 34) (S := fun w' => w'.cell? ⟨gx, 0, none⟩ = some (.int .i64 (N : Int)) ∧ w'.cell? ⟨gy, 0, none⟩ = some (.int .i64 (M : Int)) ∧ w'.cell? ⟨gx, 2, none⟩ = some (.slice Ax p cx) ∧ w'.cell? ⟨gy, 2, none⟩ = some (.slice Ay q cy)) (ds := []) (gate_Same.fl 34 0) (by kernel_rfl) rfl rfl ⟨x0, y0, x2, y2⟩ (fun hHeld => ?_)
  refine with_tabW gate_Same.tab2 gate_Same.bits2 (fun HT_ HW_ => ?_)
  generalize w2.drew = wb at HB3 hHeld ⊢
  refine pure_ (i := 0) (N := (some 16)) (v := ?_) (a' := ?_) (gate_Same.fl 34 1) rfl rfl (any_of HT_.out (by kernel_rfl)) (fun _ _ _ h => h) (Or.inl ⟨by rfl, ?_⟩) ?_ ?_
  rotate_left
  · intro w'
    go_simp
    with_reducible rfl
  rotate_left
  · simp only [Act.put, List.setIfInBounds_toArray, List.set_cons_zero, List.set_cons_succ, i64_w, i32_w]
    rfl
  refine pure_ (i := 1) (N := (some 17)) (v := ?_) (a' := ?_) (gate_Same.fl 34 2) rfl rfl (any_of HT_.out (by kernel_rfl)) (fun _ _ _ h => h) (Or.inl ⟨by rfl, ?_⟩) ?_ ?_
  rotate_left
  · intro w'
    go_simp
    with_reducible rfl
  rotate_left
  · simp only [Act.put, List.setIfInBounds_toArray, List.set_cons_zero, List.set_cons_succ, i64_w, i32_w]
    rfl
  refine pure_ (i := 2) (N := (some 18)) (v := ?_) (a' := ?_) (gate_Same.fl 34 3) rfl rfl (any_of HT_.out (by kernel_rfl)) (fun _ _ _ h => h) (Or.inl ⟨by rfl, ?_⟩) ?_ ?_
  rotate_left
  · intro w'
    go_simp
    with_reducible rfl
  rotate_left
  · simp only [Act.put, List.setIfInBounds_toArray, List.set_cons_zero, List.set_cons_succ, i64_w, i32_w]
    rfl
  refine pure_ (i := 3) (N := (some 19)) (v := ?_) (a' := ?_) (gate_Same.fl 34 4) rfl rfl (any_of HT_.out (by kernel_rfl)) (fun _ _ _ h => h) (Or.inl ⟨by rfl, ?_⟩) ?_ ?_
  rotate_left
  · intro w'
    go_simp
    with_reducible rfl
  rotate_left
  · simp only [Act.put, List.setIfInBounds_toArray, List.set_cons_zero, List.set_cons_succ, i64_w, i32_w]
    rfl
  refine pure_ (i := 4) (N := (some 20)) (v := ?_) (a' := ?_) (gate_Same.fl 34 5) rfl rfl (any_of HT_.out (by kernel_rfl)) (fun _ _ _ h => h) (Or.inl ⟨by rfl, ?_⟩) ?_ ?_
  rotate_left
  · intro w'
    go_simp
    with_reducible rfl
  rotate_left
  · simp only [Act.put, List.setIfInBounds_toArray, List.set_cons_zero, List.set_cons_succ, i64_w, i32_w]
    rfl
  refine pure_ (i := 5) (N := (some 21)) (v := ?_) (a' := ?_) (gate_Same.fl 34 6) rfl rfl (any_of HT_.out (by kernel_rfl)) (fun _ _ _ h => h) (Or.inl ⟨by rfl, ?_⟩) ?_ ?_
  rotate_left
  · intro w'
    go_simp
    with_reducible rfl
  rotate_left
  · simp only [Act.put, List.setIfInBounds_toArray, List.set_cons_zero, List.set_cons_succ, i64_w, i32_w]
    rfl
  refine pure_ (i := 6) (N := (some 22)) (v := ?_) (a' := ?_) (gate_Same.fl 34 7) rfl rfl (any_of HT_.out (by kernel_rfl)) (fun _ _ _ h => h) (Or.inl ⟨by rfl, ?_⟩) ?_ ?_
  rotate_left
  · intro w'
    go_simp
    with_reducible rfl
  rotate_left
  · simp only [Act.put, List.setIfInBounds_toArray, List.set_cons_zero, List.set_cons_succ, i64_w, i32_w]
    rfl
  refine pure_ (i := 7) (N := (some 23)) (v := ?_) (a' := ?_) (gate_Same.fl 34 8) rfl rfl (any_of HT_.out (by kernel_rfl)) (fun _ _ _ h => h) (Or.inl ⟨by rfl, ?_⟩) ?_ ?_
  rotate_left
  · intro w'
    go_simp
    with_reducible rfl
  rotate_left
  · simp only [Act.put, List.setIfInBounds_toArray, List.set_cons_zero, List.set_cons_succ, i64_w, i32_w]
    rfl
  refine pure_ (i := 8) (N := (some 24)) (v := ?_) (a' := ?_) (gate_Same.fl 34 9) rfl rfl (any_of HT_.out (by kernel_rfl)) (fun _ _ _ h => h) (Or.inl ⟨by rfl, ?_⟩) ?_ ?_
  rotate_left
  · intro w'
    go_simp
    with_reducible rfl
  rotate_left
  · simp only [Act.put, List.setIfInBounds_toArray, List.set_cons_zero, List.set_cons_succ, i64_w, i32_w]
    rfl
  refine pure_ (i := 9) (N := (some 25)) (v := ?_) (a' := ?_) (gate_Same.fl 34 10) rfl rfl (any_of HT_.out (by kernel_rfl)) (fun _ _ _ h => h) (Or.inl ⟨by rfl, ?_⟩) ?_ ?_
  rotate_left
  · intro w'
    go_simp
    with_reducible rfl
  rotate_left
  · simp only [Act.put, List.setIfInBounds_toArray, List.set_cons_zero, List.set_cons_succ, i64_w, i32_w]
    rfl
  refine pure_ (i := 10) (N := (some 26)) (v := ?_) (a' := ?_) (gate_Same.fl 34 11) rfl rfl (any_of HT_.out (by kernel_rfl)) (fun _ _ _ h => h) (Or.inl ⟨by rfl, ?_⟩) ?_ ?_
  rotate_left
  · intro w'
    go_simp
    with_reducible rfl
  rotate_left
  · simp only [Act.put, List.setIfInBounds_toArray, List.set_cons_zero, List.set_cons_succ, i64_w, i32_w]
    rfl
  refine take_ (i := 11) (N := (some 27)) (v := ?_) (a' := ?_) (gate_Same.fl 34 12) rfl rfl (take_ofW HT_.out HW_.out (by kernel_rfl)) (fun _ _ _ h => h) (Or.inl ⟨by rfl, ?_⟩) hHeld ?_ ?_
  rotate_left
  · rintro w' ⟨s0, s1, s2, s3⟩
    go_simp
    with_reducible rfl
  rotate_left
  · simp only [Act.put, List.setIfInBounds_toArray, List.set_cons_zero, List.set_cons_succ, i64_w, i32_w]
    rfl
  refine pure_ (i := 12) (N := (some 28)) (v := ?_) (a' := ?_) (gate_Same.fl 34 13) rfl rfl (any_of HT_.out (by kernel_rfl)) (fun _ _ _ h => h) (Or.inl ⟨by rfl, ?_⟩) ?_ ?_
  rotate_left
  · intro w'
    go_simp
    with_reducible rfl
  rotate_left
  · simp only [Act.put, List.setIfInBounds_toArray, List.set_cons_zero, List.set_cons_succ, i64_w, i32_w]
    rfl
  refine pure_ (i := 13) (N := (some 29)) (v := ?_) (a' := ?_) (gate_Same.fl 34 14) rfl rfl (any_of HT_.out (by kernel_rfl)) (fun _ _ _ h => h) (Or.inl ⟨by rfl, ?_⟩) ?_ ?_
  rotate_left
  · intro w'
    go_simp
    with_reducible rfl
  rotate_left
  · simp only [Act.put, List.setIfInBounds_toArray, List.set_cons_zero, List.set_cons_succ, i64_w, i32_w]
    rfl
  refine pure_ (i := 14) (N := (some 30)) (v := ?_) (a' := ?_) (gate_Same.fl 34 15) rfl rfl (any_of HT_.out (by kernel_rfl)) (fun _ _ _ h => h) (Or.inl ⟨by rfl, ?_⟩) ?_ ?_
  rotate_left
  · intro w'
    go_simp
    with_reducible rfl
  rotate_left
  · simp only [Act.put, List.setIfInBounds_toArray, List.set_cons_zero, List.set_cons_succ, i64_w, i32_w]
    rfl
  refine pure_ (i := 15) (N := (some 31)) (v := ?_) (a' := ?_) (gate_Same.fl 34 16) rfl rfl (any_of HT_.out (by kernel_rfl)) (fun _ _ _ h => h) (Or.inl ⟨by rfl, ?_⟩) ?_ ?_
  rotate_left
  · intro w'
    go_simp
    with_reducible rfl
  rotate_left
  · simp only [Act.put, List.setIfInBounds_toArray, List.set_cons_zero, List.set_cons_succ, i64_w, i32_w]
    rfl
  refine take_ (i := 16) (N := (some 32)) (v := ?_) (a' := ?_) (gate_Same.fl 34 17) rfl rfl (take_ofW HT_.out HW_.out (by kernel_rfl)) (fun _ _ _ h => h) (Or.inl ⟨by rfl, ?_⟩) hHeld ?_ ?_
  rotate_left
  · rintro w' ⟨s0, s1, s2, s3⟩
    go_simp
    with_reducible rfl
  rotate_left
  · simp only [Act.put, List.setIfInBounds_toArray, List.set_cons_zero, List.set_cons_succ, i64_w, i32_w]
    rfl
  refine pure_ (i := 17) (N := (some 33)) (v := ?_) (a' := ?_) (gate_Same.fl 34 18) rfl rfl (any_of HT_.out (by kernel_rfl)) (fun _ _ _ h => h) (Or.inl ⟨by rfl, ?_⟩) ?_ ?_
  rotate_left
  · intro w'
    go_simp
    with_reducible rfl
  rotate_left
  · simp only [Act.put, List.setIfInBounds_toArray, List.set_cons_zero, List.set_cons_succ, i64_w, i32_w]
    rfl
  refine pure_ (i := 18) (N := (some 34)) (v := ?_) (a' := ?_) (gate_Same.fl 34 19) rfl rfl (any_of HT_.out (by kernel_rfl)) (fun _ _ _ h => h) (Or.inl ⟨by rfl, ?_⟩) ?_ ?_
  rotate_left
  · intro w'
    go_simp
    with_reducible rfl
  rotate_left
  · simp only [Act.put, List.setIfInBounds_toArray, List.set_cons_zero, List.set_cons_succ, i64_w, i32_w]
    rfl
  refine pure_ (i := 19) (N := (some 35)) (v := ?_) (a' := ?_) (gate_Same.fl 34 20) rfl rfl (any_of HT_.out (by kernel_rfl)) (fun _ _ _ h => h) (Or.inl ⟨by rfl, ?_⟩) ?_ ?_
  rotate_left
  · intro w'
    go_simp
    with_reducible rfl
  rotate_left
  · simp only [Act.put, List.setIfInBounds_toArray, List.set_cons_zero, List.set_cons_succ, i64_w, i32_w]
    rfl
  refine pure_ (i := 20) (N := (some 36)) (v := undef) (a' := ?_) (gate_Same.fl 34 21) rfl rfl (any_of HT_.out (by kernel_rfl)) (fun _ _ _ h => h) (Or.inr ⟨by rfl, rfl⟩) ?_ ?_
  rotate_left
  · simp only [Act.put, List.setIfInBounds_toArray, List.set_cons_zero, List.set_cons_succ, i64_w, i32_w]
    rfl
  refine pure_ (i := 21) (N := (some 37)) (v := undef) (a' := ?_) (gate_Same.fl 34 22) rfl rfl (any_of HT_.out (by kernel_rfl)) (fun _ _ _ h => h) (Or.inr ⟨by rfl, rfl⟩) ?_ ?_
  rotate_left
  · simp only [Act.put, List.setIfInBounds_toArray, List.set_cons_zero, List.set_cons_succ, i64_w, i32_w]
    rfl
  refine pure_ (i := 22) (N := (some 38)) (v := undef) (a' := ?_) (gate_Same.fl 34 23) rfl rfl (any_of HT_.out (by kernel_rfl)) (fun _ _ _ h => h) (Or.inr ⟨by rfl, rfl⟩) ?_ ?_
  rotate_left
  · simp only [Act.put, List.setIfInBounds_toArray, List.set_cons_zero, List.set_cons_succ, i64_w, i32_w]
    rfl
  refine pure_ (i := 23) (N := (some 39)) (v := undef) (a' := ?_) (gate_Same.fl 34 24) rfl rfl (any_of HT_.out (by kernel_rfl)) (fun _ _ _ h => h) (Or.inr ⟨by rfl, rfl⟩) ?_ ?_
  rotate_left
  · simp only [Act.put, List.setIfInBounds_toArray, List.set_cons_zero, List.set_cons_succ, i64_w, i32_w]
    rfl
  refine pure_ (i := 24) (N := (some 40)) (v := undef) (a' := ?_) (gate_Same.fl 34 25) rfl rfl (any_of HT_.out (by kernel_rfl)) (fun _ _ _ h => h) (Or.inr ⟨by rfl, rfl⟩) ?_ ?_
  rotate_left
  · simp only [Act.put, List.setIfInBounds_toArray, List.set_cons_zero, List.set_cons_succ, i64_w, i32_w]
    rfl
  refine pure_ (i := 25) (N := (some 41)) (v := undef) (a' := ?_) (gate_Same.fl 34 26) rfl rfl (any_of HT_.out (by kernel_rfl)) (fun _ _ _ h => h) (Or.inr ⟨by rfl, rfl⟩) ?_ ?_
  rotate_left
  · simp only [Act.put, List.setIfInBounds_toArray, List.set_cons_zero, List.set_cons_succ, i64_w, i32_w]
    rfl
  refine pure_ (i := 26) (N := (some 42)) (v := undef) (a' := ?_) (gate_Same.fl 34 27) rfl rfl (any_of HT_.out (by kernel_rfl)) (fun _ _ _ h => h) (Or.inr ⟨by rfl, rfl⟩) ?_ ?_
  rotate_left
  · simp only [Act.put, List.setIfInBounds_toArray, List.set_cons_zero, List.set_cons_succ, i64_w, i32_w]
    rfl
  refine pure_ (i := 27) (N := (some 43)) (v := undef) (a' := ?_) (gate_Same.fl 34 28) rfl rfl (any_of HT_.out (by kernel_rfl)) (fun _ _ _ h => h) (Or.inr ⟨by rfl, rfl⟩) ?_ ?_
  rotate_left
  · simp only [Act.put, List.setIfInBounds_toArray, List.set_cons_zero, List.set_cons_succ, i64_w, i32_w]
    rfl
  refine pure_ (i := 28) (N := (some 44)) (v := undef) (a' := ?_) (gate_Same.fl 34 29) rfl rfl (any_of HT_.out (by kernel_rfl)) (fun _ _ _ h => h) (Or.inr ⟨by rfl, rfl⟩) ?_ ?_
  rotate_left
  · simp only [Act.put, List.setIfInBounds_toArray, List.set_cons_zero, List.set_cons_succ, i64_w, i32_w]
    rfl
  refine pure_ (i := 29) (N := (some 45)) (v := undef) (a' := ?_) (gate_Same.fl 34 30) rfl rfl (any_of HT_.out (by kernel_rfl)) (fun _ _ _ h => h) (Or.inr ⟨by rfl, rfl⟩) ?_ ?_
  rotate_left
  · simp only [Act.put, List.setIfInBounds_toArray, List.set_cons_zero, List.set_cons_succ, i64_w, i32_w]
    rfl
  refine pure_ (i := 30) (N := (some 46)) (v := undef) (a' := ?_) (gate_Same.fl 34 31) rfl rfl (any_of HT_.out (by kernel_rfl)) (fun _ _ _ h => h) (Or.inr ⟨by rfl, rfl⟩) ?_ ?_
  rotate_left
  · simp only [Act.put, List.setIfInBounds_toArray, List.set_cons_zero, List.set_cons_succ, i64_w, i32_w]
    rfl
  refine pure_ (i := 31) (N := (some 47)) (v := undef) (a' := ?_) (gate_Same.fl 34 32) rfl rfl (any_of HT_.out (by kernel_rfl)) (fun _ _ _ h => h) (Or.inr ⟨by rfl, rfl⟩) ?_ ?_
  rotate_left
  · simp only [Act.put, List.setIfInBounds_toArray, List.set_cons_zero, List.set_cons_succ, i64_w, i32_w]
    rfl
  refine pure_ (i := 32) (N := (some 48)) (v := undef) (a' := ?_) (gate_Same.fl 34 33) rfl rfl (any_of HT_.out (by kernel_rfl)) (fun _ _ _ h => h) (Or.inr ⟨by rfl, rfl⟩) ?_ ?_
  rotate_left
  · simp only [Act.put, List.setIfInBounds_toArray, List.set_cons_zero, List.set_cons_succ, i64_w, i32_w]
    rfl
  refine pure_ (i := 33) (N := (some 49)) (v := ?_) (a' := ?_) (gate_Same.fl 34 34) rfl rfl (any_of HT_.out (by kernel_rfl)) (fun _ _ _ h => h) (Or.inl ⟨by rfl, ?_⟩) ?_ ?_
  rotate_left
  · intro w'
    go_simp
    with_reducible rfl
  rotate_left
  · simp only [Act.put, List.setIfInBounds_toArray, List.set_cons_zero, List.set_cons_succ, i64_w, i32_w]
    rfl
  refine done_ (done_of HT_.out (by kernel_rfl)) ?_
  clear hHeld HT_ HW_
  go_wp2
  go_ret2
  exact ⟨rfl, HB.out.trans (HB3.out.mono HB.out.size)⟩
theorem same_len (N p q : Nat) (A1 : Option Addr) (c1 : Nat) (l1 : List S40) (A2 : Option Addr) (c2 : Nat) (l2 : List Int) (B1 : Option Addr) (d1 : Nat) (m1 : List S40) (B2 : Option Addr) (d2 : Nat) (m2 : List Int) (w : World) (hr1 : Kd.C k40 w A1 l1.length l1) (hc1 : l1.length ≤ c1) (hr2 : Kd.C (Kd.int .i64) w A2 l2.length l2) (hc2 : l2.length ≤ c2) (hs1 : Kd.C k40 w B1 m1.length m1) (hd1 : m1.length ≤ d1) (hs2 : Kd.C (Kd.int .i64) w B2 m2.length m2) (hd2 : m2.length ≤ d2) (ha : okC (N : Int) l1 l2 = true) (hb : okC (N : Int) m1 m2 = true) (hp : l2.length = p) (hq : m2.length = q) (hne : p ≠ q) :
    Calls Try.prog 38 #[.agg #[.int .i64 (N : Int), .slice A1 l1.length c1, .slice A2 l2.length c2], .agg #[.int .i64 (N : Int), .slice B1 m1.length d1, .slice B2 m2.length d2]] w fun e w' => e = .returned (.tuple #[.int .i64 0, .int .i64 2]) ∧ Below w.heap.size w w' := by
  obtain ⟨w0, hw0⟩ : ∃ w0, (w.alloc (.cells #[.int .i64 (N : Int), .slice A1 l1.length c1, .slice A2 l2.length c2] 25)).alloc (.cells #[.int .i64 (N : Int), .slice B1 m1.length d1, .slice B2 m2.length d2] 25) = w0 := ⟨_, rfl⟩
  have HB := Aside0.mk (show Below w.heap.size w w0 by rw [← hw0]; exact below_alloc (below_alloc (Below.refl _ _) _) _)
  have hx : w0.heap[w.heap.size]? = some (.cells #[.int .i64 (N : Int), .slice A1 l1.length c1, .slice A2 l2.length c2] 25 (0, 0)) := by
    rw [← hw0]
    have h1 := heap_alloc_new w (.cells #[.int .i64 (N : Int), .slice A1 l1.length c1, .slice A2 l2.length c2] 25)
    have h2 : Below (w.alloc (.cells #[.int .i64 (N : Int), .slice A1 l1.length c1, .slice A2 l2.length c2] 25)).heap.size (w.alloc (.cells #[.int .i64 (N : Int), .slice A1 l1.length c1, .slice A2 l2.length c2] 25)) ((w.alloc (.cells #[.int .i64 (N : Int), .slice A1 l1.length c1, .slice A2 l2.length c2] 25)).alloc (.cells #[.int .i64 (N : Int), .slice B1 m1.length d1, .slice B2 m2.length d2] 25)) := below_alloc (Below.refl _ _) _
    rw [h2.block _ (by rw [World.size_alloc]; omega)]
    exact h1
  have hy : w0.heap[w.heap.size + 1]? = some (.cells #[.int .i64 (N : Int), .slice B1 m1.length d1, .slice B2 m2.length d2] 25 (0, 0)) := by
    rw [← hw0]
    have := heap_alloc_new (w.alloc (.cells #[.int .i64 (N : Int), .slice A1 l1.length c1, .slice A2 l2.length c2] 25)) (.cells #[.int .i64 (N : Int), .slice B1 m1.length d1, .slice B2 m2.length d2] 25)
    rwa [World.size_alloc] at this
  have HX := Aside0.mk (fun W (h : Below w0.heap.size w0 W) => box_cells hx h)
  have HY := Aside0.mk (fun W (h : Below w0.heap.size w0 W) => box_cells hy h)
  have HO1 := Aside0.mk (fun W (h : Below w0.heap.size w0 W) => of_ok N l1 l2 A1 c1 A2 c2 W ha (Kd.C_below (Kd.C_below hr1 HB.out) h) hc1 (Kd.C_below (Kd.C_below hr2 HB.out) h) hc2)
  have HO2 := Aside0.mk (fun W (h : Below w0.heap.size w0 W) => of_ok N m1 m2 B1 d1 B2 d2 W hb (Kd.C_below (Kd.C_below hs1 HB.out) h) hd1 (Kd.C_below (Kd.C_below hs2 HB.out) h) hd2)
  have e1 : ((p : Int) != (q : Int)) = true := bne_iff_ne.2 (by omega)
  have e2 : ((p : Int) == (q : Int)) = false := beq_eq_false_iff_ne.2 (by omega)
  have e3 : (p == q) = false := beq_eq_false_iff_ne.2 hne
  have e4 : decide ((p : Int) = (q : Int)) = false := decide_eq_false (by omega)
  have e5 : decide (p = q) = false := decide_eq_false hne
  have HP := Aside0.mk hp
  have HQ := Aside0.mk hq
  clear hp hq hr1 hr2 hs1 hs2 hx hy ha hb
  go_enter Try.func38, Try.ntmps38
  go_wp2
  try rw [hw0]
  have HB0 := Aside0.mk (below_drew1 (Below.refl w0.heap.size w0))
  refine start_ (n := 6) (S := fun w' => w'.cell? ⟨w.heap.size, 0, none⟩ = some (.int .i64 (N : Int)) ∧ w'.cell? ⟨w.heap.size, 1, none⟩ = some (.slice A1 l1.length c1) ∧ w'.cell? ⟨w.heap.size, 2, none⟩ = some (.slice A2 l2.length c2) ∧ w'.cell? ⟨w.heap.size + 1, 0, none⟩ = some (.int .i64 (N : Int)) ∧ w'.cell? ⟨w.heap.size + 1, 1, none⟩ = some (.slice B1 m1.length d1) ∧ w'.cell? ⟨w.heap.size + 1, 2, none⟩ = some (.slice B2 m2.length d2)) (ds := []) (gate_Same.fl 6 0) (by kernel_rfl) rfl rfl ⟨(HX.out _ HB0.out).1, (HX.out _ HB0.out).2.1, (HX.out _ HB0.out).2.2, (HY.out _ HB0.out).1, (HY.out _ HB0.out).2.1, (HY.out _ HB0.out).2.2⟩ (fun hHeld => ?_)
  refine with_tabW gate_Same.tab1 gate_Same.bits1 (fun HT_ HW_ => ?_)
  generalize w0.drew = wa at HB0 hHeld ⊢
  refine take_ (i := 0) (N := (some 12)) (v := ?_) (a' := ?_) (gate_Same.fl 6 1) rfl rfl (take_ofW HT_.out HW_.out (by kernel_rfl)) (fun _ _ _ h => h) (Or.inl ⟨by rfl, ?_⟩) hHeld ?_ ?_
  rotate_left
  · rintro w' ⟨s0, s1, s2, s3, s4, s5⟩
    go_simp
    with_reducible rfl
  rotate_left
  · simp only [Act.put, List.setIfInBounds_toArray, List.set_cons_zero, List.set_cons_succ, i64_w, i32_w]
    rfl
  refine take_ (i := 2) (N := (some 14)) (v := ?_) (a' := ?_) #[true, false, true, false, false, false] rfl rfl (take_ofW HT_.out HW_.out (by kernel_rfl)) (fun _ _ _ h => h) (Or.inl ⟨by rfl, ?_⟩) hHeld ?_ ?_
  rotate_left
  · rintro w' ⟨s0, s1, s2, s3, s4, s5⟩
    go_simp
    with_reducible rfl
  rotate_left
  · simp only [Act.put, List.setIfInBounds_toArray, List.set_cons_zero, List.set_cons_succ, i64_w, i32_w]
    rfl
  refine one_ (i := 1) (N := (some 13)) (gate_Same.fl 6 3) rfl rfl (one_of HT_.out (by kernel_rfl)) (by decide) (fun K hK => ?_)
  refine goes_ Try.func54 (by kernel_rfl) rfl #[.agg #[.int .i64 (N : Int), .slice A1 l1.length c1, .slice A2 l2.length c2]] (by rfl) rfl rfl (by (try simp only [List.map_toArray, List.map_cons, List.map_nil]); first | done | rfl | (simp only [List.length_drop, List.length_take]; rfl)) ?_
  refine (HO1.out _ HB0.out).mono ?_
  rintro e w1 ⟨gx, rfl, hC1, hb1⟩
  refine ⟨_, rfl, ?_⟩
  have HB1 := Aside0.mk (below_step HB0.out hb1)
  have HC1 := Aside0.mk hC1
  clear hC1
  clear hb1
  refine hK.out _ _ ⟨(HX.out _ HB1.out).1, (HX.out _ HB1.out).2.1, (HX.out _ HB1.out).2.2, (HY.out _ HB1.out).1, (HY.out _ HB1.out).2.1, (HY.out _ HB1.out).2.2⟩ (fun hHeld => ?_)
  clear hK K
  refine norm_ (a' := ?_) ?_ ?_
  rotate_left
  · show Act.put _ (some 13) _ = _
    simp only [Act.put, List.setIfInBounds_toArray, List.set_cons_zero, List.set_cons_succ, i64_w, i32_w]
    rfl
  refine one_ (i := 3) (N := (some 15)) (gate_Same.fl 6 4) rfl rfl (one_of HT_.out (by kernel_rfl)) (by decide) (fun K hK => ?_)
  refine goes_ Try.func54 (by kernel_rfl) rfl #[.agg #[.int .i64 (N : Int), .slice B1 m1.length d1, .slice B2 m2.length d2]] (by rfl) rfl rfl (by (try simp only [List.map_toArray, List.map_cons, List.map_nil]); first | done | rfl | (simp only [List.length_drop, List.length_take]; rfl)) ?_
  refine (HO2.out _ HB1.out).mono ?_
  rintro e w2 ⟨gy, rfl, hC2, hb2⟩
  refine ⟨_, rfl, ?_⟩
  have HB2 := Aside0.mk (below_step HB1.out hb2)
  have HC2 := Aside0.mk hC2
  clear hC2
  have HC1' := Aside0.mk (HC1.out.keep hb2)
  clear hb2
  refine hK.out _ _ ⟨(HX.out _ HB2.out).1, (HX.out _ HB2.out).2.1, (HX.out _ HB2.out).2.2, (HY.out _ HB2.out).1, (HY.out _ HB2.out).2.1, (HY.out _ HB2.out).2.2⟩ (fun hHeld => ?_)
  clear hK K
  refine norm_ (a' := ?_) ?_ ?_
  rotate_left
  · show Act.put _ (some 15) _ = _
    simp only [Act.put, List.setIfInBounds_toArray, List.set_cons_zero, List.set_cons_succ, i64_w, i32_w]
    rfl
  refine pure_ (i := 4) (N := (some 6)) (v := ?_) (a' := ?_) (gate_Same.fl 6 5) rfl rfl (any_of HT_.out (by kernel_rfl)) (fun _ _ _ h => h) (Or.inl ⟨by rfl, ?_⟩) ?_ ?_
  rotate_left
  · intro w'
    go_simp
    with_reducible rfl
  rotate_left
  · simp only [Act.put, List.setIfInBounds_toArray, List.set_cons_zero, List.set_cons_succ, i64_w, i32_w]
    rfl
  refine pure_ (i := 5) (N := (some 7)) (v := ?_) (a' := ?_) (gate_Same.fl 6 6) rfl rfl (any_of HT_.out (by kernel_rfl)) (fun _ _ _ h => h) (Or.inl ⟨by rfl, ?_⟩) ?_ ?_
  rotate_left
  · intro w'
    go_simp
    with_reducible rfl
  rotate_left
  · simp only [Act.put, List.setIfInBounds_toArray, List.set_cons_zero, List.set_cons_succ, i64_w, i32_w]
    rfl
  refine done_ (done_of HT_.out (by kernel_rfl)) ?_
  clear hHeld HT_ HW_
  try go_wp2
  obtain ⟨Ax, cx, x0, x2⟩ := (HC1'.out.keep (below_drew1 (Below.refl _ _))).now
  obtain ⟨Ay, cy, y0, y2⟩ := (HC2.out.keep (below_drew1 (Below.refl _ _))).now
  rw [HP.out] at x2
  rw [HQ.out] at y2
  try go_wp2
  have HB3 := Aside0.mk (below_drew1 HB2.out)
  refine start_ (n := 34) (S := fun w' => w'.cell? ⟨gx, 0, none⟩ = some (.int .i64 (N : Int)) ∧ w'.cell? ⟨gy, 0, none⟩ = some (.int .i64 (N : Int)) ∧ w'.cell? ⟨gx, 2, none⟩ = some (.slice Ax p cx) ∧ w'.cell? ⟨gy, 2, none⟩ = some (.slice Ay q cy)) (ds := []) (gate_Same.fl 34 0) (by kernel_rfl) rfl rfl ⟨x0, y0, x2, y2⟩ (fun hHeld => ?_)
  refine with_tabW gate_Same.tab2 gate_Same.bits2 (fun HT_ HW_ => ?_)
  generalize w2.drew = wb at HB3 hHeld ⊢
  refine pure_ (i := 0) (N := (some 16)) (v := ?_) (a' := ?_) (gate_Same.fl 34 1) rfl rfl (any_of HT_.out (by kernel_rfl)) (fun _ _ _ h => h) (Or.inl ⟨by rfl, ?_⟩) ?_ ?_
  rotate_left
  · intro w'
    go_simp
    with_reducible rfl
  rotate_left
  · simp only [Act.put, List.setIfInBounds_toArray, List.set_cons_zero, List.set_cons_succ, i64_w, i32_w]
    rfl
  refine pure_ (i := 1) (N := (some 17)) (v := ?_) (a' := ?_) (gate_Same.fl 34 2) rfl rfl (any_of HT_.out (by kernel_rfl)) (fun _ _ _ h => h) (Or.inl ⟨by rfl, ?_⟩) ?_ ?_
  rotate_left
  · intro w'
    go_simp
    with_reducible rfl
  rotate_left
  · simp only [Act.put, List.setIfInBounds_toArray, List.set_cons_zero, List.set_cons_succ, i64_w, i32_w]
    rfl
  refine pure_ (i := 2) (N := (some 18)) (v := ?_) (a' := ?_) (gate_Same.fl 34 3) rfl rfl (any_of HT_.out (by kernel_rfl)) (fun _ _ _ h => h) (Or.inl ⟨by rfl, ?_⟩) ?_ ?_
  rotate_left
  · intro w'
    go_simp
    with_reducible rfl
  rotate_left
  · simp only [Act.put, List.setIfInBounds_toArray, List.set_cons_zero, List.set_cons_succ, i64_w, i32_w]
    rfl
  refine pure_ (i := 3) (N := (some 19)) (v := ?_) (a' := ?_) (gate_Same.fl 34 4) rfl rfl (any_of HT_.out (by kernel_rfl)) (fun _ _ _ h => h) (Or.inl ⟨by rfl, ?_⟩) ?_ ?_
  rotate_left
  · intro w'
    go_simp
    with_reducible rfl
  rotate_left
  · simp only [Act.put, List.setIfInBounds_toArray, List.set_cons_zero, List.set_cons_succ, i64_w, i32_w]
    rfl
  refine pure_ (i := 4) (N := (some 20)) (v := ?_) (a' := ?_) (gate_Same.fl 34 5) rfl rfl (any_of HT_.out (by kernel_rfl)) (fun _ _ _ h => h) (Or.inl ⟨by rfl, ?_⟩) ?_ ?_
  rotate_left
  · intro w'
    go_simp
    with_reducible rfl
  rotate_left
  · simp only [Act.put, List.setIfInBounds_toArray, List.set_cons_zero, List.set_cons_succ, i64_w, i32_w]
    rfl
  refine pure_ (i := 5) (N := (some 21)) (v := ?_) (a' := ?_) (gate_Same.fl 34 6) rfl rfl (any_of HT_.out (by kernel_rfl)) (fun _ _ _ h => h) (Or.inl ⟨by rfl, ?_⟩) ?_ ?_
  rotate_left
  · intro w'
    go_simp
    with_reducible rfl
  rotate_left
  · simp only [Act.put, List.setIfInBounds_toArray, List.set_cons_zero, List.set_cons_succ, i64_w, i32_w]
    rfl
  refine pure_ (i := 6) (N := (some 22)) (v := ?_) (a' := ?_) (gate_Same.fl 34 7) rfl rfl (any_of HT_.out (by kernel_rfl)) (fun _ _ _ h => h) (Or.inl ⟨by rfl, ?_⟩) ?_ ?_
  rotate_left
  · intro w'
    go_simp
    with_reducible rfl
  rotate_left
  · simp only [Act.put, List.setIfInBounds_toArray, List.set_cons_zero, List.set_cons_succ, i64_w, i32_w]
    rfl
  refine pure_ (i := 7) (N := (some 23)) (v := ?_) (a' := ?_) (gate_Same.fl 34 8) rfl rfl (any_of HT_.out (by kernel_rfl)) (fun _ _ _ h => h) (Or.inl ⟨by rfl, ?_⟩) ?_ ?_
  rotate_left
  · intro w'
    go_simp
    with_reducible rfl
  rotate_left
  · simp only [Act.put, List.setIfInBounds_toArray, List.set_cons_zero, List.set_cons_succ, i64_w, i32_w]
    rfl
  refine pure_ (i := 8) (N := (some 24)) (v := ?_) (a' := ?_) (gate_Same.fl 34 9) rfl rfl (any_of HT_.out (by kernel_rfl)) (fun _ _ _ h => h) (Or.inl ⟨by rfl, ?_⟩) ?_ ?_
  rotate_left
  · intro w'
    go_simp
    with_reducible rfl
  rotate_left
  · simp only [Act.put, List.setIfInBounds_toArray, List.set_cons_zero, List.set_cons_succ, i64_w, i32_w]
    rfl
  refine pure_ (i := 9) (N := (some 25)) (v := ?_) (a' := ?_) (gate_Same.fl 34 10) rfl rfl (any_of HT_.out (by kernel_rfl)) (fun _ _ _ h => h) (Or.inl ⟨by rfl, ?_⟩) ?_ ?_
  rotate_left
  · intro w'
    go_simp
    with_reducible rfl
  rotate_left
  · simp only [Act.put, List.setIfInBounds_toArray, List.set_cons_zero, List.set_cons_succ, i64_w, i32_w]
    rfl
  refine pure_ (i := 10) (N := (some 26)) (v := ?_) (a' := ?_) (gate_Same.fl 34 11) rfl rfl (any_of HT_.out (by kernel_rfl)) (fun _ _ _ h => h) (Or.inl ⟨by rfl, ?_⟩) ?_ ?_
  rotate_left
  · intro w'
    go_simp
    with_reducible rfl
  rotate_left
  · simp only [Act.put, List.setIfInBounds_toArray, List.set_cons_zero, List.set_cons_succ, i64_w, i32_w]
    rfl
  refine take_ (i := 11) (N := (some 27)) (v := ?_) (a' := ?_) (gate_Same.fl 34 12) rfl rfl (take_ofW HT_.out HW_.out (by kernel_rfl)) (fun _ _ _ h => h) (Or.inl ⟨by rfl, ?_⟩) hHeld ?_ ?_
  rotate_left
  · rintro w' ⟨s0, s1, s2, s3⟩
    go_simp
    with_reducible rfl
  rotate_left
  · simp only [Act.put, List.setIfInBounds_toArray, List.set_cons_zero, List.set_cons_succ, i64_w, i32_w]
    rfl
  refine pure_ (i := 12) (N := (some 28)) (v := ?_) (a' := ?_) (gate_Same.fl 34 13) rfl rfl (any_of HT_.out (by kernel_rfl)) (fun _ _ _ h => h) (Or.inl ⟨by rfl, ?_⟩) ?_ ?_
  rotate_left
  · intro w'
    go_simp
    with_reducible rfl
  rotate_left
  · simp only [Act.put, List.setIfInBounds_toArray, List.set_cons_zero, List.set_cons_succ, i64_w, i32_w]
    rfl
  refine pure_ (i := 13) (N := (some 29)) (v := ?_) (a' := ?_) (gate_Same.fl 34 14) rfl rfl (any_of HT_.out (by kernel_rfl)) (fun _ _ _ h => h) (Or.inl ⟨by rfl, ?_⟩) ?_ ?_
  rotate_left
  · intro w'
    go_simp
    with_reducible rfl
  rotate_left
  · simp only [Act.put, List.setIfInBounds_toArray, List.set_cons_zero, List.set_cons_succ, i64_w, i32_w]
    rfl
  refine pure_ (i := 14) (N := (some 30)) (v := ?_) (a' := ?_) (gate_Same.fl 34 15) rfl rfl (any_of HT_.out (by kernel_rfl)) (fun _ _ _ h => h) (Or.inl ⟨by rfl, ?_⟩) ?_ ?_
  rotate_left
  · intro w'
    go_simp
    with_reducible rfl
  rotate_left
  · simp only [Act.put, List.setIfInBounds_toArray, List.set_cons_zero, List.set_cons_succ, i64_w, i32_w]
    rfl
  refine pure_ (i := 15) (N := (some 31)) (v := ?_) (a' := ?_) (gate_Same.fl 34 16) rfl rfl (any_of HT_.out (by kernel_rfl)) (fun _ _ _ h => h) (Or.inl ⟨by rfl, ?_⟩) ?_ ?_
  rotate_left
  · intro w'
    go_simp
    with_reducible rfl
  rotate_left
  · simp only [Act.put, List.setIfInBounds_toArray, List.set_cons_zero, List.set_cons_succ, i64_w, i32_w]
    rfl
  refine take_ (i := 16) (N := (some 32)) (v := ?_) (a' := ?_) (gate_Same.fl 34 17) rfl rfl (take_ofW HT_.out HW_.out (by kernel_rfl)) (fun _ _ _ h => h) (Or.inl ⟨by rfl, ?_⟩) hHeld ?_ ?_
  rotate_left
  · rintro w' ⟨s0, s1, s2, s3⟩
    go_simp
    with_reducible rfl
  rotate_left
  · simp only [Act.put, List.setIfInBounds_toArray, List.set_cons_zero, List.set_cons_succ, i64_w, i32_w]
    rfl
  refine pure_ (i := 17) (N := (some 33)) (v := ?_) (a' := ?_) (gate_Same.fl 34 18) rfl rfl (any_of HT_.out (by kernel_rfl)) (fun _ _ _ h => h) (Or.inl ⟨by rfl, ?_⟩) ?_ ?_
  rotate_left
  · intro w'
    go_simp
    with_reducible rfl
  rotate_left
  · simp only [Act.put, List.setIfInBounds_toArray, List.set_cons_zero, List.set_cons_succ, i64_w, i32_w]
    rfl
  refine pure_ (i := 18) (N := (some 34)) (v := ?_) (a' := ?_) (gate_Same.fl 34 19) rfl rfl (any_of HT_.out (by kernel_rfl)) (fun _ _ _ h => h) (Or.inl ⟨by rfl, ?_⟩) ?_ ?_
  rotate_left
  · intro w'
    go_simp
    with_reducible rfl
  rotate_left
  · simp only [Act.put, List.setIfInBounds_toArray, List.set_cons_zero, List.set_cons_succ, i64_w, i32_w]
    rfl
  refine pure_ (i := 19) (N := (some 35)) (v := ?_) (a' := ?_) (gate_Same.fl 34 20) rfl rfl (any_of HT_.out (by kernel_rfl)) (fun _ _ _ h => h) (Or.inl ⟨by rfl, ?_⟩) ?_ ?_
  rotate_left
  · intro w'
    go_simp
    with_reducible rfl
  rotate_left
  · simp only [Act.put, List.setIfInBounds_toArray, List.set_cons_zero, List.set_cons_succ, i64_w, i32_w]
    rfl
  refine pure_ (i := 20) (N := (some 36)) (v := ?_) (a' := ?_) (gate_Same.fl 34 21) rfl rfl (any_of HT_.out (by kernel_rfl)) (fun _ _ _ h => h) (Or.inl ⟨by rfl, ?_⟩) ?_ ?_
  rotate_left
  · intro w'
    go_simp
    with_reducible rfl
  rotate_left
  · simp only [Act.put, List.setIfInBounds_toArray, List.set_cons_zero, List.set_cons_succ, i64_w, i32_w]
    rfl
  refine pure_ (i := 21) (N := (some 37)) (v := ?_) (a' := ?_) (gate_Same.fl 34 22) rfl rfl (any_of HT_.out (by kernel_rfl)) (fun _ _ _ h => h) (Or.inl ⟨by rfl, ?_⟩) ?_ ?_
  rotate_left
  · intro w'
    go_simp
    with_reducible rfl
  rotate_left
  · simp only [Act.put, List.setIfInBounds_toArray, List.set_cons_zero, List.set_cons_succ, i64_w, i32_w]
    rfl
  refine pure_ (i := 22) (N := (some 38)) (v := ?_) (a' := ?_) (gate_Same.fl 34 23) rfl rfl (any_of HT_.out (by kernel_rfl)) (fun _ _ _ h => h) (Or.inl ⟨by rfl, ?_⟩) ?_ ?_
  rotate_left
  · intro w'
    go_simp
    with_reducible rfl
  rotate_left
  · simp only [Act.put, List.setIfInBounds_toArray, List.set_cons_zero, List.set_cons_succ, i64_w, i32_w]
    rfl
  refine pure_ (i := 23) (N := (some 39)) (v := ?_) (a' := ?_) (gate_Same.fl 34 24) rfl rfl (any_of HT_.out (by kernel_rfl)) (fun _ _ _ h => h) (Or.inl ⟨by rfl, ?_⟩) ?_ ?_
  rotate_left
  · intro w'
    go_simp
    with_reducible rfl
  rotate_left
  · simp only [Act.put, List.setIfInBounds_toArray, List.set_cons_zero, List.set_cons_succ, i64_w, i32_w]
    rfl
  refine take_ (i := 24) (N := (some 40)) (v := ?_) (a' := ?_) (gate_Same.fl 34 25) rfl rfl (take_ofW HT_.out HW_.out (by kernel_rfl)) (fun _ _ _ h => h) (Or.inl ⟨by rfl, ?_⟩) hHeld ?_ ?_
  rotate_left
  · rintro w' ⟨s0, s1, s2, s3⟩
    go_simp
    with_reducible rfl
  rotate_left
  · simp only [Act.put, List.setIfInBounds_toArray, List.set_cons_zero, List.set_cons_succ, i64_w, i32_w]
    rfl
  refine pure_ (i := 25) (N := (some 41)) (v := ?_) (a' := ?_) (gate_Same.fl 34 26) rfl rfl (any_of HT_.out (by kernel_rfl)) (fun _ _ _ h => h) (Or.inl ⟨by rfl, ?_⟩) ?_ ?_
  rotate_left
  · intro w'
    go_simp
    with_reducible rfl
  rotate_left
  · simp only [Act.put, List.setIfInBounds_toArray, List.set_cons_zero, List.set_cons_succ, i64_w, i32_w]
    rfl
  refine pure_ (i := 26) (N := (some 42)) (v := ?_) (a' := ?_) (gate_Same.fl 34 27) rfl rfl (any_of HT_.out (by kernel_rfl)) (fun _ _ _ h => h) (Or.inl ⟨by rfl, ?_⟩) ?_ ?_
  rotate_left
  · intro w'
    go_simp
    with_reducible rfl
  rotate_left
  · simp only [Act.put, List.setIfInBounds_toArray, List.set_cons_zero, List.set_cons_succ, i64_w, i32_w]
    rfl
  refine pure_ (i := 27) (N := (some 43)) (v := ?_) (a' := ?_) (gate_Same.fl 34 28) rfl rfl (any_of HT_.out (by kernel_rfl)) (fun _ _ _ h => h) (Or.inl ⟨by rfl, ?_⟩) ?_ ?_
  rotate_left
  · intro w'
    go_simp
    with_reducible rfl
  rotate_left
  · simp only [Act.put, List.setIfInBounds_toArray, List.set_cons_zero, List.set_cons_succ, i64_w, i32_w]
    rfl
  refine pure_ (i := 28) (N := (some 44)) (v := ?_) (a' := ?_) (gate_Same.fl 34 29) rfl rfl (any_of HT_.out (by kernel_rfl)) (fun _ _ _ h => h) (Or.inl ⟨by rfl, ?_⟩) ?_ ?_
  rotate_left
  · intro w'
    go_simp
    with_reducible rfl
  rotate_left
  · simp only [Act.put, List.setIfInBounds_toArray, List.set_cons_zero, List.set_cons_succ, i64_w, i32_w]
    rfl
  refine pure_ (i := 29) (N := (some 45)) (v := ?_) (a' := ?_) (gate_Same.fl 34 30) rfl rfl (any_of HT_.out (by kernel_rfl)) (fun _ _ _ h => h) (Or.inl ⟨by rfl, ?_⟩) ?_ ?_
  rotate_left
  · intro w'
    go_simp
    with_reducible rfl
  rotate_left
  · simp only [Act.put, List.setIfInBounds_toArray, List.set_cons_zero, List.set_cons_succ, i64_w, i32_w]
    rfl
  refine take_ (i := 30) (N := (some 46)) (v := ?_) (a' := ?_) (gate_Same.fl 34 31) rfl rfl (take_ofW HT_.out HW_.out (by kernel_rfl)) (fun _ _ _ h => h) (Or.inl ⟨by rfl, ?_⟩) hHeld ?_ ?_
  rotate_left
  · rintro w' ⟨s0, s1, s2, s3⟩
    go_simp
    with_reducible rfl
  rotate_left
  · simp only [Act.put, List.setIfInBounds_toArray, List.set_cons_zero, List.set_cons_succ, i64_w, i32_w]
    rfl
  refine pure_ (i := 31) (N := (some 47)) (v := ?_) (a' := ?_) (gate_Same.fl 34 32) rfl rfl (any_of HT_.out (by kernel_rfl)) (fun _ _ _ h => h) (Or.inl ⟨by rfl, ?_⟩) ?_ ?_
  rotate_left
  · intro w'
    go_simp
    with_reducible rfl
  rotate_left
  · simp only [Act.put, List.setIfInBounds_toArray, List.set_cons_zero, List.set_cons_succ, i64_w, i32_w]
    rfl
  refine pure_ (i := 32) (N := (some 48)) (v := ?_) (a' := ?_) (gate_Same.fl 34 33) rfl rfl (any_of HT_.out (by kernel_rfl)) (fun _ _ _ h => h) (Or.inl ⟨by rfl, ?_⟩) ?_ ?_
  rotate_left
  · intro w'
    go_simp
    with_reducible rfl
  rotate_left
  · simp only [Act.put, List.setIfInBounds_toArray, List.set_cons_zero, List.set_cons_succ, i64_w, i32_w]
    rfl
  refine pure_ (i := 33) (N := (some 49)) (v := ?_) (a' := ?_) (gate_Same.fl 34 34) rfl rfl (any_of HT_.out (by kernel_rfl)) (fun _ _ _ h => h) (Or.inl ⟨by rfl, ?_⟩) ?_ ?_
  rotate_left
  · intro w'
    go_simp
    with_reducible rfl
  rotate_left
  · simp only [Act.put, List.setIfInBounds_toArray, List.set_cons_zero, List.set_cons_succ, i64_w, i32_w]
    rfl
  refine done_ (done_of HT_.out (by kernel_rfl)) ?_
  clear hHeld HT_ HW_
  go_wp2
  go_ret2
  exact ⟨rfl, HB.out.trans (HB3.out.mono HB.out.size)⟩
theorem same_main (N m : Nat) (A1 : Option Addr) (c1 : Nat) (l1 : List S40) (A2 : Option Addr) (c2 : Nat) (l2 : List Int) (B1 : Option Addr) (d1 : Nat) (m1 : List S40) (B2 : Option Addr) (d2 : Nat) (m2 : List Int) (w : World) (hr1 : Kd.C k40 w A1 l1.length l1) (hc1 : l1.length ≤ c1) (hr2 : Kd.C (Kd.int .i64) w A2 l2.length l2) (hc2 : l2.length ≤ c2) (hs1 : Kd.C k40 w B1 m1.length m1) (hd1 : m1.length ≤ d1) (hs2 : Kd.C (Kd.int .i64) w B2 m2.length m2) (hd2 : m2.length ≤ d2) (ha : okC (N : Int) l1 l2 = true) (hb : okC (N : Int) m1 m2 = true) (hp : l2.length = m) (hq : m2.length = m) (r1 r2 : Int) (hr : (match GT.memb (diffW (toC N l1 l2) (toC N m1 m2)) with | [] => ((0 : Int), (10 : Int)) | v :: _ => ((v : Int), 0)) = (r1, r2)) :
    Calls Try.prog 38 #[.agg #[.int .i64 (N : Int), .slice A1 l1.length c1, .slice A2 l2.length c2], .agg #[.int .i64 (N : Int), .slice B1 m1.length d1, .slice B2 m2.length d2]] w fun e w' => e = .returned (.tuple #[.int .i64 r1, .int .i64 r2]) ∧ Below w.heap.size w w' := by
  obtain ⟨w0, hw0⟩ : ∃ w0, (w.alloc (.cells #[.int .i64 (N : Int), .slice A1 l1.length c1, .slice A2 l2.length c2] 25)).alloc (.cells #[.int .i64 (N : Int), .slice B1 m1.length d1, .slice B2 m2.length d2] 25) = w0 := ⟨_, rfl⟩
  have HB := Aside0.mk (show Below w.heap.size w w0 by rw [← hw0]; exact below_alloc (below_alloc (Below.refl _ _) _) _)
  have hx : w0.heap[w.heap.size]? = some (.cells #[.int .i64 (N : Int), .slice A1 l1.length c1, .slice A2 l2.length c2] 25 (0, 0)) := by
    rw [← hw0]
    have h1 := heap_alloc_new w (.cells #[.int .i64 (N : Int), .slice A1 l1.length c1, .slice A2 l2.length c2] 25)
    have h2 : Below (w.alloc (.cells #[.int .i64 (N : Int), .slice A1 l1.length c1, .slice A2 l2.length c2] 25)).heap.size (w.alloc (.cells #[.int .i64 (N : Int), .slice A1 l1.length c1, .slice A2 l2.length c2] 25)) ((w.alloc (.cells #[.int .i64 (N : Int), .slice A1 l1.length c1, .slice A2 l2.length c2] 25)).alloc (.cells #[.int .i64 (N : Int), .slice B1 m1.length d1, .slice B2 m2.length d2] 25)) := below_alloc (Below.refl _ _) _
    rw [h2.block _ (by rw [World.size_alloc]; omega)]
    exact h1
  have hy : w0.heap[w.heap.size + 1]? = some (.cells #[.int .i64 (N : Int), .slice B1 m1.length d1, .slice B2 m2.length d2] 25 (0, 0)) := by
    rw [← hw0]
    have := heap_alloc_new (w.alloc (.cells #[.int .i64 (N : Int), .slice A1 l1.length c1, .slice A2 l2.length c2] 25)) (.cells #[.int .i64 (N : Int), .slice B1 m1.length d1, .slice B2 m2.length d2] 25)
    rwa [World.size_alloc] at this
  have HX := Aside0.mk (fun W (h : Below w0.heap.size w0 W) => box_cells hx h)
  have HY := Aside0.mk (fun W (h : Below w0.heap.size w0 W) => box_cells hy h)
  have HO1 := Aside0.mk (fun W (h : Below w0.heap.size w0 W) => of_ok N l1 l2 A1 c1 A2 c2 W ha (Kd.C_below (Kd.C_below hr1 HB.out) h) hc1 (Kd.C_below (Kd.C_below hr2 HB.out) h) hc2)
  have HO2 := Aside0.mk (fun W (h : Below w0.heap.size w0 W) => of_ok N m1 m2 B1 d1 B2 d2 W hb (Kd.C_below (Kd.C_below hs1 HB.out) h) hd1 (Kd.C_below (Kd.C_below hs2 HB.out) h) hd2)
  have hs := okC_small ha
  have hN6 : N ≤ 6 := by omega
  have HU1 := Aside0.mk (fun {W : World} {g : Nat} (hC : CircAt W g N l1 l2) => outs_calls none (fun q hq => by cases hq) ha hC)
  have HU2 := Aside0.mk (fun {W : World} {g : Nat} (hC : CircAt W g N m1 m2) => outs_calls none (fun q hq => by cases hq) hb hC)
  rw [show fI none = -1 from rfl] at HU1 HU2
  have w1 := outsW_W64 hN6 l1 l2 none
  have w2 := outsW_W64 hN6 m1 m2 none
  have hl1 := outsW_length (toC N l1 l2) none
  have hl2 := outsW_length (toC N m1 m2) none
  have hlo : (toC N l1 l2).os.length = m := by simp [toC, hp]
  have hlo2 : (toC N m1 m2).os.length = m := by simp [toC, hq]
  rw [hlo] at hl1
  rw [hlo2] at hl2
  have hm : m ≤ 4 := by rw [← hp]; exact hs.2.2.2.2
  have hdf : diffW (toC N l1 l2) (toC N m1 m2) = shTo (GT.outsW (toC N l1 l2) none) (GT.outsW (toC N m1 m2) none) m := by unfold diffW; rw [hlo]
  rw [hdf] at hr
  generalize GT.outsW (toC N l1 l2) none = a at *
  generalize GT.outsW (toC N m1 m2) none = b at *
  have hSl := shTo_lt w1 w2 m
  have HW := Aside0.mk (And.intro w1 w2)
  have HL := Aside0.mk (And.intro hl1 hl2)
  have HM := Aside0.mk hm
  have HR := Aside0.mk hr
  have HSl := Aside0.mk hSl
  have HP := Aside0.mk hp
  have HQ := Aside0.mk hq
  clear hp hq hr1 hr2 hs1 hs2 hx hy ha hb hs hN6 w1 w2 hl1 hl2 hlo hlo2 hm hdf hr hSl
  go_enter Try.func38, Try.ntmps38
  go_wp2
  try rw [hw0]
  have HB0 := Aside0.mk (below_drew1 (Below.refl w0.heap.size w0))
  refine start_ (n := 6) (S := fun w' => w'.cell? ⟨w.heap.size, 0, none⟩ = some (.int .i64 (N : Int)) ∧ w'.cell? ⟨w.heap.size, 1, none⟩ = some (.slice A1 l1.length c1) ∧ w'.cell? ⟨w.heap.size, 2, none⟩ = some (.slice A2 l2.length c2) ∧ w'.cell? ⟨w.heap.size + 1, 0, none⟩ = some (.int .i64 (N : Int)) ∧ w'.cell? ⟨w.heap.size + 1, 1, none⟩ = some (.slice B1 m1.length d1) ∧ w'.cell? ⟨w.heap.size + 1, 2, none⟩ = some (.slice B2 m2.length d2)) (ds := []) (gate_Same.fl 6 0) (by kernel_rfl) rfl rfl ⟨(HX.out _ HB0.out).1, (HX.out _ HB0.out).2.1, (HX.out _ HB0.out).2.2, (HY.out _ HB0.out).1, (HY.out _ HB0.out).2.1, (HY.out _ HB0.out).2.2⟩ (fun hHeld => ?_)
  refine with_tabW gate_Same.tab1 gate_Same.bits1 (fun HT_ HW_ => ?_)
  generalize w0.drew = wa at HB0 hHeld ⊢
  refine take_ (i := 0) (N := (some 12)) (v := ?_) (a' := ?_) (gate_Same.fl 6 1) rfl rfl (take_ofW HT_.out HW_.out (by kernel_rfl)) (fun _ _ _ h => h) (Or.inl ⟨by rfl, ?_⟩) hHeld ?_ ?_
  rotate_left
  · rintro w' ⟨s0, s1, s2, s3, s4, s5⟩
    go_simp
    with_reducible rfl
  rotate_left
  · simp only [Act.put, List.setIfInBounds_toArray, List.set_cons_zero, List.set_cons_succ, i64_w, i32_w]
    rfl
  refine take_ (i := 2) (N := (some 14)) (v := ?_) (a' := ?_) #[true, false, true, false, false, false] rfl rfl (take_ofW HT_.out HW_.out (by kernel_rfl)) (fun _ _ _ h => h) (Or.inl ⟨by rfl, ?_⟩) hHeld ?_ ?_
  rotate_left
  · rintro w' ⟨s0, s1, s2, s3, s4, s5⟩
    go_simp
    with_reducible rfl
  rotate_left
  · simp only [Act.put, List.setIfInBounds_toArray, List.set_cons_zero, List.set_cons_succ, i64_w, i32_w]
    rfl
  refine one_ (i := 1) (N := (some 13)) (gate_Same.fl 6 3) rfl rfl (one_of HT_.out (by kernel_rfl)) (by decide) (fun K hK => ?_)
  refine goes_ Try.func54 (by kernel_rfl) rfl #[.agg #[.int .i64 (N : Int), .slice A1 l1.length c1, .slice A2 l2.length c2]] (by rfl) rfl rfl (by (try simp only [List.map_toArray, List.map_cons, List.map_nil]); first | done | rfl | (simp only [List.length_drop, List.length_take]; rfl)) ?_
  refine (HO1.out _ HB0.out).mono ?_
  rintro e w1 ⟨gx, rfl, hC1, hb1⟩
  refine ⟨_, rfl, ?_⟩
  have HB1 := Aside0.mk (below_step HB0.out hb1)
  have HC1 := Aside0.mk hC1
  clear hC1
  clear hb1
  refine hK.out _ _ ⟨(HX.out _ HB1.out).1, (HX.out _ HB1.out).2.1, (HX.out _ HB1.out).2.2, (HY.out _ HB1.out).1, (HY.out _ HB1.out).2.1, (HY.out _ HB1.out).2.2⟩ (fun hHeld => ?_)
  clear hK K
  refine norm_ (a' := ?_) ?_ ?_
  rotate_left
  · show Act.put _ (some 13) _ = _
    simp only [Act.put, List.setIfInBounds_toArray, List.set_cons_zero, List.set_cons_succ, i64_w, i32_w]
    rfl
  refine one_ (i := 3) (N := (some 15)) (gate_Same.fl 6 4) rfl rfl (one_of HT_.out (by kernel_rfl)) (by decide) (fun K hK => ?_)
  refine goes_ Try.func54 (by kernel_rfl) rfl #[.agg #[.int .i64 (N : Int), .slice B1 m1.length d1, .slice B2 m2.length d2]] (by rfl) rfl rfl (by (try simp only [List.map_toArray, List.map_cons, List.map_nil]); first | done | rfl | (simp only [List.length_drop, List.length_take]; rfl)) ?_
  refine (HO2.out _ HB1.out).mono ?_
  rintro e w2 ⟨gy, rfl, hC2, hb2⟩
  refine ⟨_, rfl, ?_⟩
  have HB2 := Aside0.mk (below_step HB1.out hb2)
  have HC2 := Aside0.mk hC2
  clear hC2
  have HC1' := Aside0.mk (HC1.out.keep hb2)
  clear hb2
  refine hK.out _ _ ⟨(HX.out _ HB2.out).1, (HX.out _ HB2.out).2.1, (HX.out _ HB2.out).2.2, (HY.out _ HB2.out).1, (HY.out _ HB2.out).2.1, (HY.out _ HB2.out).2.2⟩ (fun hHeld => ?_)
  clear hK K
  refine norm_ (a' := ?_) ?_ ?_
  rotate_left
  · show Act.put _ (some 15) _ = _
    simp only [Act.put, List.setIfInBounds_toArray, List.set_cons_zero, List.set_cons_succ, i64_w, i32_w]
    rfl
  refine pure_ (i := 4) (N := (some 6)) (v := ?_) (a' := ?_) (gate_Same.fl 6 5) rfl rfl (any_of HT_.out (by kernel_rfl)) (fun _ _ _ h => h) (Or.inl ⟨by rfl, ?_⟩) ?_ ?_
  rotate_left
  · intro w'
    go_simp
    with_reducible rfl
  rotate_left
  · simp only [Act.put, List.setIfInBounds_toArray, List.set_cons_zero, List.set_cons_succ, i64_w, i32_w]
    rfl
  refine pure_ (i := 5) (N := (some 7)) (v := ?_) (a' := ?_) (gate_Same.fl 6 6) rfl rfl (any_of HT_.out (by kernel_rfl)) (fun _ _ _ h => h) (Or.inl ⟨by rfl, ?_⟩) ?_ ?_
  rotate_left
  · intro w'
    go_simp
    with_reducible rfl
  rotate_left
  · simp only [Act.put, List.setIfInBounds_toArray, List.set_cons_zero, List.set_cons_succ, i64_w, i32_w]
    rfl
  refine done_ (done_of HT_.out (by kernel_rfl)) ?_
  clear hHeld HT_ HW_
  try go_wp2
  obtain ⟨Ax, cx, x0, x2⟩ := (HC1'.out.keep (below_drew1 (Below.refl _ _))).now
  obtain ⟨Ay, cy, y0, y2⟩ := (HC2.out.keep (below_drew1 (Below.refl _ _))).now
  rw [HP.out] at x2
  rw [HQ.out] at y2
  try go_wp2
  have HB3 := Aside0.mk (below_drew1 HB2.out)
  have HCx := Aside0.mk (HC1'.out.keep (below_drew1 (Below.refl _ _)))
  have HCy := Aside0.mk (HC2.out.keep (below_drew1 (Below.refl _ _)))
  refine start_ (n := 34) (S := fun w' => w'.cell? ⟨gx, 0, none⟩ = some (.int .i64 (N : Int)) ∧ w'.cell? ⟨gy, 0, none⟩ = some (.int .i64 (N : Int)) ∧ w'.cell? ⟨gx, 2, none⟩ = some (.slice Ax m cx) ∧ w'.cell? ⟨gy, 2, none⟩ = some (.slice Ay m cy)) (ds := []) (gate_Same.fl 34 0) (by kernel_rfl) rfl rfl ⟨x0, y0, x2, y2⟩ (fun hHeld => ?_)
  refine with_tabW gate_Same.tab2 gate_Same.bits2 (fun HT_ HW_ => ?_)
  generalize w2.drew = wb at HB3 HCx HCy hHeld ⊢
  refine pure_ (i := 0) (N := (some 16)) (v := ?_) (a' := ?_) (gate_Same.fl 34 1) rfl rfl (any_of HT_.out (by kernel_rfl)) (fun _ _ _ h => h) (Or.inl ⟨by rfl, ?_⟩) ?_ ?_
  rotate_left
  · intro w'
    go_simp
    with_reducible rfl
  rotate_left
  · simp only [Act.put, List.setIfInBounds_toArray, List.set_cons_zero, List.set_cons_succ, i64_w, i32_w]
    rfl
  refine pure_ (i := 1) (N := (some 17)) (v := ?_) (a' := ?_) (gate_Same.fl 34 2) rfl rfl (any_of HT_.out (by kernel_rfl)) (fun _ _ _ h => h) (Or.inl ⟨by rfl, ?_⟩) ?_ ?_
  rotate_left
  · intro w'
    go_simp
    with_reducible rfl
  rotate_left
  · simp only [Act.put, List.setIfInBounds_toArray, List.set_cons_zero, List.set_cons_succ, i64_w, i32_w]
    rfl
  refine pure_ (i := 2) (N := (some 18)) (v := ?_) (a' := ?_) (gate_Same.fl 34 3) rfl rfl (any_of HT_.out (by kernel_rfl)) (fun _ _ _ h => h) (Or.inl ⟨by rfl, ?_⟩) ?_ ?_
  rotate_left
  · intro w'
    go_simp
    with_reducible rfl
  rotate_left
  · simp only [Act.put, List.setIfInBounds_toArray, List.set_cons_zero, List.set_cons_succ, i64_w, i32_w]
    rfl
  refine pure_ (i := 3) (N := (some 19)) (v := ?_) (a' := ?_) (gate_Same.fl 34 4) rfl rfl (any_of HT_.out (by kernel_rfl)) (fun _ _ _ h => h) (Or.inl ⟨by rfl, ?_⟩) ?_ ?_
  rotate_left
  · intro w'
    go_simp
    with_reducible rfl
  rotate_left
  · simp only [Act.put, List.setIfInBounds_toArray, List.set_cons_zero, List.set_cons_succ, i64_w, i32_w]
    rfl
  refine pure_ (i := 4) (N := (some 20)) (v := ?_) (a' := ?_) (gate_Same.fl 34 5) rfl rfl (any_of HT_.out (by kernel_rfl)) (fun _ _ _ h => h) (Or.inl ⟨by rfl, ?_⟩) ?_ ?_
  rotate_left
  · intro w'
    go_simp
    with_reducible rfl
  rotate_left
  · simp only [Act.put, List.setIfInBounds_toArray, List.set_cons_zero, List.set_cons_succ, i64_w, i32_w]
    rfl
  refine pure_ (i := 5) (N := (some 21)) (v := ?_) (a' := ?_) (gate_Same.fl 34 6) rfl rfl (any_of HT_.out (by kernel_rfl)) (fun _ _ _ h => h) (Or.inl ⟨by rfl, ?_⟩) ?_ ?_
  rotate_left
  · intro w'
    go_simp
    with_reducible rfl
  rotate_left
  · simp only [Act.put, List.setIfInBounds_toArray, List.set_cons_zero, List.set_cons_succ, i64_w, i32_w]
    rfl
  refine pure_ (i := 6) (N := (some 22)) (v := ?_) (a' := ?_) (gate_Same.fl 34 7) rfl rfl (any_of HT_.out (by kernel_rfl)) (fun _ _ _ h => h) (Or.inl ⟨by rfl, ?_⟩) ?_ ?_
  rotate_left
  · intro w'
    go_simp
    with_reducible rfl
  rotate_left
  · simp only [Act.put, List.setIfInBounds_toArray, List.set_cons_zero, List.set_cons_succ, i64_w, i32_w]
    rfl
  refine pure_ (i := 7) (N := (some 23)) (v := ?_) (a' := ?_) (gate_Same.fl 34 8) rfl rfl (any_of HT_.out (by kernel_rfl)) (fun _ _ _ h => h) (Or.inl ⟨by rfl, ?_⟩) ?_ ?_
  rotate_left
  · intro w'
    go_simp
    with_reducible rfl
  rotate_left
  · simp only [Act.put, List.setIfInBounds_toArray, List.set_cons_zero, List.set_cons_succ, i64_w, i32_w]
    rfl
  refine pure_ (i := 8) (N := (some 24)) (v := ?_) (a' := ?_) (gate_Same.fl 34 9) rfl rfl (any_of HT_.out (by kernel_rfl)) (fun _ _ _ h => h) (Or.inl ⟨by rfl, ?_⟩) ?_ ?_
  rotate_left
  · intro w'
    go_simp
    with_reducible rfl
  rotate_left
  · simp only [Act.put, List.setIfInBounds_toArray, List.set_cons_zero, List.set_cons_succ, i64_w, i32_w]
    rfl
  refine pure_ (i := 9) (N := (some 25)) (v := ?_) (a' := ?_) (gate_Same.fl 34 10) rfl rfl (any_of HT_.out (by kernel_rfl)) (fun _ _ _ h => h) (Or.inl ⟨by rfl, ?_⟩) ?_ ?_
  rotate_left
  · intro w'
    go_simp
    with_reducible rfl
  rotate_left
  · simp only [Act.put, List.setIfInBounds_toArray, List.set_cons_zero, List.set_cons_succ, i64_w, i32_w]
    rfl
  refine pure_ (i := 10) (N := (some 26)) (v := ?_) (a' := ?_) (gate_Same.fl 34 11) rfl rfl (any_of HT_.out (by kernel_rfl)) (fun _ _ _ h => h) (Or.inl ⟨by rfl, ?_⟩) ?_ ?_
  rotate_left
  · intro w'
    go_simp
    with_reducible rfl
  rotate_left
  · simp only [Act.put, List.setIfInBounds_toArray, List.set_cons_zero, List.set_cons_succ, i64_w, i32_w]
    rfl
  refine take_ (i := 11) (N := (some 27)) (v := ?_) (a' := ?_) (gate_Same.fl 34 12) rfl rfl (take_ofW HT_.out HW_.out (by kernel_rfl)) (fun _ _ _ h => h) (Or.inl ⟨by rfl, ?_⟩) hHeld ?_ ?_
  rotate_left
  · rintro w' ⟨s0, s1, s2, s3⟩
    go_simp
    with_reducible rfl
  rotate_left
  · simp only [Act.put, List.setIfInBounds_toArray, List.set_cons_zero, List.set_cons_succ, i64_w, i32_w]
    rfl
  refine pure_ (i := 12) (N := (some 28)) (v := ?_) (a' := ?_) (gate_Same.fl 34 13) rfl rfl (any_of HT_.out (by kernel_rfl)) (fun _ _ _ h => h) (Or.inl ⟨by rfl, ?_⟩) ?_ ?_
  rotate_left
  · intro w'
    go_simp
    with_reducible rfl
  rotate_left
  · simp only [Act.put, List.setIfInBounds_toArray, List.set_cons_zero, List.set_cons_succ, i64_w, i32_w]
    rfl
  refine pure_ (i := 13) (N := (some 29)) (v := ?_) (a' := ?_) (gate_Same.fl 34 14) rfl rfl (any_of HT_.out (by kernel_rfl)) (fun _ _ _ h => h) (Or.inl ⟨by rfl, ?_⟩) ?_ ?_
  rotate_left
  · intro w'
    go_simp
    with_reducible rfl
  rotate_left
  · simp only [Act.put, List.setIfInBounds_toArray, List.set_cons_zero, List.set_cons_succ, i64_w, i32_w]
    rfl
  refine pure_ (i := 14) (N := (some 30)) (v := ?_) (a' := ?_) (gate_Same.fl 34 15) rfl rfl (any_of HT_.out (by kernel_rfl)) (fun _ _ _ h => h) (Or.inl ⟨by rfl, ?_⟩) ?_ ?_
  rotate_left
  · intro w'
    go_simp
    with_reducible rfl
  rotate_left
  · simp only [Act.put, List.setIfInBounds_toArray, List.set_cons_zero, List.set_cons_succ, i64_w, i32_w]
    rfl
  refine pure_ (i := 15) (N := (some 31)) (v := ?_) (a' := ?_) (gate_Same.fl 34 16) rfl rfl (any_of HT_.out (by kernel_rfl)) (fun _ _ _ h => h) (Or.inl ⟨by rfl, ?_⟩) ?_ ?_
  rotate_left
  · intro w'
    go_simp
    with_reducible rfl
  rotate_left
  · simp only [Act.put, List.setIfInBounds_toArray, List.set_cons_zero, List.set_cons_succ, i64_w, i32_w]
    rfl
  refine take_ (i := 16) (N := (some 32)) (v := ?_) (a' := ?_) (gate_Same.fl 34 17) rfl rfl (take_ofW HT_.out HW_.out (by kernel_rfl)) (fun _ _ _ h => h) (Or.inl ⟨by rfl, ?_⟩) hHeld ?_ ?_
  rotate_left
  · rintro w' ⟨s0, s1, s2, s3⟩
    go_simp
    with_reducible rfl
  rotate_left
  · simp only [Act.put, List.setIfInBounds_toArray, List.set_cons_zero, List.set_cons_succ, i64_w, i32_w]
    rfl
  refine pure_ (i := 17) (N := (some 33)) (v := ?_) (a' := ?_) (gate_Same.fl 34 18) rfl rfl (any_of HT_.out (by kernel_rfl)) (fun _ _ _ h => h) (Or.inl ⟨by rfl, ?_⟩) ?_ ?_
  rotate_left
  · intro w'
    go_simp
    with_reducible rfl
  rotate_left
  · simp only [Act.put, List.setIfInBounds_toArray, List.set_cons_zero, List.set_cons_succ, i64_w, i32_w]
    rfl
  refine pure_ (i := 18) (N := (some 34)) (v := ?_) (a' := ?_) (gate_Same.fl 34 19) rfl rfl (any_of HT_.out (by kernel_rfl)) (fun _ _ _ h => h) (Or.inl ⟨by rfl, ?_⟩) ?_ ?_
  rotate_left
  · intro w'
    go_simp
    with_reducible rfl
  rotate_left
  · simp only [Act.put, List.setIfInBounds_toArray, List.set_cons_zero, List.set_cons_succ, i64_w, i32_w]
    rfl
  refine pure_ (i := 19) (N := (some 35)) (v := ?_) (a' := ?_) (gate_Same.fl 34 20) rfl rfl (any_of HT_.out (by kernel_rfl)) (fun _ _ _ h => h) (Or.inl ⟨by rfl, ?_⟩) ?_ ?_
  rotate_left
  · intro w'
    go_simp
    with_reducible rfl
  rotate_left
  · simp only [Act.put, List.setIfInBounds_toArray, List.set_cons_zero, List.set_cons_succ, i64_w, i32_w]
    rfl
  refine pure_ (i := 20) (N := (some 36)) (v := ?_) (a' := ?_) (gate_Same.fl 34 21) rfl rfl (any_of HT_.out (by kernel_rfl)) (fun _ _ _ h => h) (Or.inl ⟨by rfl, ?_⟩) ?_ ?_
  rotate_left
  · intro w'
    go_simp
    with_reducible rfl
  rotate_left
  · simp only [Act.put, List.setIfInBounds_toArray, List.set_cons_zero, List.set_cons_succ, i64_w, i32_w]
    rfl
  refine pure_ (i := 21) (N := (some 37)) (v := ?_) (a' := ?_) (gate_Same.fl 34 22) rfl rfl (any_of HT_.out (by kernel_rfl)) (fun _ _ _ h => h) (Or.inl ⟨by rfl, ?_⟩) ?_ ?_
  rotate_left
  · intro w'
    go_simp
    with_reducible rfl
  rotate_left
  · simp only [Act.put, List.setIfInBounds_toArray, List.set_cons_zero, List.set_cons_succ, i64_w, i32_w]
    rfl
  refine pure_ (i := 22) (N := (some 38)) (v := ?_) (a' := ?_) (gate_Same.fl 34 23) rfl rfl (any_of HT_.out (by kernel_rfl)) (fun _ _ _ h => h) (Or.inl ⟨by rfl, ?_⟩) ?_ ?_
  rotate_left
  · intro w'
    go_simp
    with_reducible rfl
  rotate_left
  · simp only [Act.put, List.setIfInBounds_toArray, List.set_cons_zero, List.set_cons_succ, i64_w, i32_w]
    rfl
  refine pure_ (i := 23) (N := (some 39)) (v := ?_) (a' := ?_) (gate_Same.fl 34 24) rfl rfl (any_of HT_.out (by kernel_rfl)) (fun _ _ _ h => h) (Or.inl ⟨by rfl, ?_⟩) ?_ ?_
  rotate_left
  · intro w'
    go_simp
    with_reducible rfl
  rotate_left
  · simp only [Act.put, List.setIfInBounds_toArray, List.set_cons_zero, List.set_cons_succ, i64_w, i32_w]
    rfl
  refine take_ (i := 24) (N := (some 40)) (v := ?_) (a' := ?_) (gate_Same.fl 34 25) rfl rfl (take_ofW HT_.out HW_.out (by kernel_rfl)) (fun _ _ _ h => h) (Or.inl ⟨by rfl, ?_⟩) hHeld ?_ ?_
  rotate_left
  · rintro w' ⟨s0, s1, s2, s3⟩
    go_simp
    with_reducible rfl
  rotate_left
  · simp only [Act.put, List.setIfInBounds_toArray, List.set_cons_zero, List.set_cons_succ, i64_w, i32_w]
    rfl
  refine pure_ (i := 25) (N := (some 41)) (v := ?_) (a' := ?_) (gate_Same.fl 34 26) rfl rfl (any_of HT_.out (by kernel_rfl)) (fun _ _ _ h => h) (Or.inl ⟨by rfl, ?_⟩) ?_ ?_
  rotate_left
  · intro w'
    go_simp
    with_reducible rfl
  rotate_left
  · simp only [Act.put, List.setIfInBounds_toArray, List.set_cons_zero, List.set_cons_succ, i64_w, i32_w]
    rfl
  refine pure_ (i := 26) (N := (some 42)) (v := ?_) (a' := ?_) (gate_Same.fl 34 27) rfl rfl (any_of HT_.out (by kernel_rfl)) (fun _ _ _ h => h) (Or.inl ⟨by rfl, ?_⟩) ?_ ?_
  rotate_left
  · intro w'
    go_simp
    with_reducible rfl
  rotate_left
  · simp only [Act.put, List.setIfInBounds_toArray, List.set_cons_zero, List.set_cons_succ, i64_w, i32_w]
    rfl
  refine pure_ (i := 27) (N := (some 43)) (v := ?_) (a' := ?_) (gate_Same.fl 34 28) rfl rfl (any_of HT_.out (by kernel_rfl)) (fun _ _ _ h => h) (Or.inl ⟨by rfl, ?_⟩) ?_ ?_
  rotate_left
  · intro w'
    go_simp
    with_reducible rfl
  rotate_left
  · simp only [Act.put, List.setIfInBounds_toArray, List.set_cons_zero, List.set_cons_succ, i64_w, i32_w]
    rfl
  refine pure_ (i := 28) (N := (some 44)) (v := ?_) (a' := ?_) (gate_Same.fl 34 29) rfl rfl (any_of HT_.out (by kernel_rfl)) (fun _ _ _ h => h) (Or.inl ⟨by rfl, ?_⟩) ?_ ?_
  rotate_left
  · intro w'
    go_simp
    with_reducible rfl
  rotate_left
  · simp only [Act.put, List.setIfInBounds_toArray, List.set_cons_zero, List.set_cons_succ, i64_w, i32_w]
    rfl
  refine pure_ (i := 29) (N := (some 45)) (v := ?_) (a' := ?_) (gate_Same.fl 34 30) rfl rfl (any_of HT_.out (by kernel_rfl)) (fun _ _ _ h => h) (Or.inl ⟨by rfl, ?_⟩) ?_ ?_
  rotate_left
  · intro w'
    go_simp
    with_reducible rfl
  rotate_left
  · simp only [Act.put, List.setIfInBounds_toArray, List.set_cons_zero, List.set_cons_succ, i64_w, i32_w]
    rfl
  refine take_ (i := 30) (N := (some 46)) (v := ?_) (a' := ?_) (gate_Same.fl 34 31) rfl rfl (take_ofW HT_.out HW_.out (by kernel_rfl)) (fun _ _ _ h => h) (Or.inl ⟨by rfl, ?_⟩) hHeld ?_ ?_
  rotate_left
  · rintro w' ⟨s0, s1, s2, s3⟩
    go_simp
    with_reducible rfl
  rotate_left
  · simp only [Act.put, List.setIfInBounds_toArray, List.set_cons_zero, List.set_cons_succ, i64_w, i32_w]
    rfl
  refine pure_ (i := 31) (N := (some 47)) (v := ?_) (a' := ?_) (gate_Same.fl 34 32) rfl rfl (any_of HT_.out (by kernel_rfl)) (fun _ _ _ h => h) (Or.inl ⟨by rfl, ?_⟩) ?_ ?_
  rotate_left
  · intro w'
    go_simp
    with_reducible rfl
  rotate_left
  · simp only [Act.put, List.setIfInBounds_toArray, List.set_cons_zero, List.set_cons_succ, i64_w, i32_w]
    rfl
  refine pure_ (i := 32) (N := (some 48)) (v := ?_) (a' := ?_) (gate_Same.fl 34 33) rfl rfl (any_of HT_.out (by kernel_rfl)) (fun _ _ _ h => h) (Or.inl ⟨by rfl, ?_⟩) ?_ ?_
  rotate_left
  · intro w'
    go_simp
    with_reducible rfl
  rotate_left
  · simp only [Act.put, List.setIfInBounds_toArray, List.set_cons_zero, List.set_cons_succ, i64_w, i32_w]
    rfl
  refine pure_ (i := 33) (N := (some 49)) (v := ?_) (a' := ?_) (gate_Same.fl 34 34) rfl rfl (any_of HT_.out (by kernel_rfl)) (fun _ _ _ h => h) (Or.inl ⟨by rfl, ?_⟩) ?_ ?_
  rotate_left
  · intro w'
    go_simp
    with_reducible rfl
  rotate_left
  · simp only [Act.put, List.setIfInBounds_toArray, List.set_cons_zero, List.set_cons_succ, i64_w, i32_w]
    rfl
  refine done_ (done_of HT_.out (by kernel_rfl)) ?_
  clear hHeld HT_ HW_
  have HBw3 := Aside0.mk (HB.out.trans (HB3.out.mono HB.out.size))
  clear HB HB0 HB1 HB2 HB3 HC1 HC1' HC2 HX HY HO1 HO2 x0 x2 y0 y2
  go_wp2_with (first | (go_at_call 59; (with_reducible refine (HU2.out HCy.out).mono ?_); rintro e w3 ⟨v3, rfl, hR, hb⟩; obtain ⟨Aq, cq, rfl⟩ := Kd.R_slice hR; have HR1 := Aside0.mk (Kd.R_reads' hR); have HBq := Aside0.mk hb; have HCx3 := Aside0.mk (HCx.out.keep hb); clear hR hb))
  go_wp2_with (first | (go_at_call 59; (with_reducible refine (HU1.out HCx3.out).mono ?_); rintro e w4 ⟨v4, rfl, hR, hb⟩; obtain ⟨Ar, cr, rfl⟩ := Kd.R_slice hR; have HR2 := Aside0.mk (Kd.R_reads' hR); have HBr := Aside0.mk hb; clear hR hb))
  have hB0 := Aside0.mk (below_step (below_step HBw3.out HBq.out) HBr.out)
  have hR1 := Aside0.mk (Kd.C_below HR1.out.2.2 HBr.out)
  have hBw := Aside0.mk (Below.refl w4.heap.size w4)
  go_loopw [8, 55] (fun v8 v55 w' => ∃ i : Nat, v55 = .int .i64 (i : Int) ∧ v8 = .int .u64 ((shTo a b i : Nat) : Int) ∧ Aside0 (i ≤ m) ∧ Aside0 (Below w4.heap.size w4 w')) (fun _ v _ => m - (intOf v).toNat)
  case atStart => exact ⟨0, rfl, rfl, ⟨Nat.zero_le _⟩, hBw⟩
  case round =>
    clear hBw
    obtain ⟨i, rfl, rfl, Hi, HBw⟩ := hrel
    have hna : (nI a).length = m := by rw [nI_length]; exact HL.out.1
    have hnb : (nI b).length = m := by rw [nI_length]; exact HL.out.2
    rw [hna]
    by_cases ct : (i : Int) < (m : Int)
    · have c1b : decide ((i : Int) < (m : Int)) = true := decide_eq_true ct
      have c1c : decide (i < m) = true := decide_eq_true (by omega)
      have hi : i < m := by omega
      have Hct := Aside0.mk hi
      have q1 := eq_true ct
      have q2 := eq_true hi
      have q3 := eq_true (show (0 : Int) ≤ i by omega)
      have r2 := Kd.C_below HR2.out.2.2 HBw.out
      have r1 := Kd.C_below hR1.out HBw.out
      rw [hna] at r2
      rw [hnb] at r1
      obtain ⟨ad2, e2, hx2⟩ := Kd.at_int r2 (i : Int) (by omega) ct
      obtain ⟨ad1, e1, hx1⟩ := Kd.at_int r1 (i : Int) (by omega) ct
      subst e1 e2
      rw [rd_nI, Int.toNat_natCast] at hx1 hx2
      have HSt := Aside0.mk (show Go.bits .or .u64 ((shTo a b i : Nat) : Int) (Go.bits .xor .u64 ((a.getD i 0 : Nat) : Int) ((b.getD i 0 : Nat) : Int)) = ((shTo a b (i + 1) : Nat) : Int) by
        have hx := Nat.xor_lt_two_pow (n := 64) (by simpa using HW.out.1 i) (by simpa using HW.out.2 i)
        rw [xoru64 _ _ (HW.out.1 i) (HW.out.2 i), oru64 _ _ (shTo_lt HW.out.1 HW.out.2 i) (by simpa using hx)]
        rfl)
      generalize a.getD i 0 = x at *
      generalize b.getD i 0 = y at *
      clear ct r1 r2 hi
      go_wp2
      go_roundw
      case rel => exact ⟨i + 1, by rw [w64 (by have := Hct.out; have := HM.out; omega) (by have := Hct.out; have := HM.out; omega)]; rfl, by rw [HSt.out], ⟨Hct.out⟩, HBw⟩
      case measure => rw [w64 (by have := Hct.out; have := HM.out; omega) (by have := Hct.out; have := HM.out; omega)]; have := Hct.out; simp [intOf]; omega
    · have c1b : decide ((i : Int) < (m : Int)) = false := decide_eq_false ct
      have c1c : decide (i < m) = false := decide_eq_false (by omega)
      have him : m = i := by have := Hi.out; omega
      subst him
      clear ct
      have HBz := Aside0.mk (below_step hB0.out HBw.out)
      obtain ⟨X, hX⟩ : ∃ X, shTo a b m = X := ⟨_, rfl⟩
      rw [hX] at HR HSl ⊢
      have hlt := HSl.out
      rcases memb_cases (x := X) (by simpa using hlt) with ⟨h0, hm0⟩ | ⟨v, t, hm1, hne⟩
      · subst h0
        have hr := HR.out
        rw [hm0] at hr
        simp only [Prod.mk.injEq] at hr
        obtain ⟨rfl, rfl⟩ := hr
        clear HR HSl hlt hX
        go_wp2
        go_ret2
        exact ⟨rfl, HBz.out⟩
      · have hr := HR.out
        rw [hm1] at hr
        simp only [Prod.mk.injEq] at hr
        obtain ⟨rfl, rfl⟩ := hr
        have hF := members_f X hlt 65 (by omega)
        unfold membI at hF
        rw [hm1] at hF
        have HF := Aside0.mk hF
        obtain ⟨ms, hms⟩ : ∃ ms : List Int, List.map (fun (j : Nat) => (j : Int)) (v :: t) = ms := ⟨_, rfl⟩
        have hml : ms.length = t.length + 1 := by rw [← hms]; simp
        have hm0 : rd ms 0 = (v : Int) := by rw [← hms]; rfl
        rw [hms] at HF
        obtain ⟨n, hn⟩ : ∃ n, ms.length = n := ⟨_, rfl⟩
        have HMn := Aside0.mk (And.intro hn (And.intro hm0 (show 0 < n by omega)))
        have e1 : ((X : Int) == 0) = false := beq_eq_false_iff_ne.2 (by omega)
        have e2 : (X == 0) = false := beq_eq_false_iff_ne.2 hne
        have e3 : decide ((X : Int) = 0) = false := decide_eq_false (by omega)
        have e4 : decide (X = 0) = false := decide_eq_false hne
        have q1 := eq_true (show (0 : Int) < (n : Int) by omega)
        have q2 := eq_true (show 0 < n by omega)
        clear HR HSl hlt hX hF hms hml hm0 hn hm1 hne
        go_wp2_with (first | (go_at_call 68; (with_reducible refine (gate_members.calls 65 (X : Int) _ _ HF.out).mono ?_); rintro e w6 ⟨v6, rfl, hR, hb⟩; obtain ⟨A6, c6, rfl⟩ := Kd.R_slice hR; have hr6 := (Kd.R_reads' hR).2.2; rw [HMn.out.1] at hr6 ⊢; obtain ⟨ad6, e6, hx6⟩ := Kd.at_int hr6 0 (by omega) (by have := HMn.out.2.2; omega); subst e6; rw [HMn.out.2.1] at hx6; have hx7 : w6.cell? ad6 = some (.int .i64 (v : Int)) := (by simpa [Addr.add] using hx6); clear hr6; have HB6 := Aside0.mk (below_step HBz.out hb); clear hR hb))
        go_ret2
        exact ⟨rfl, HB6.out⟩
theorem gate_Same.calls (a0 : Int) (A1 : Option Addr) (c1 : Nat) (l1 : List S40) (A2 : Option Addr) (c2 : Nat) (l2 : List Int) (b0 : Int) (B1 : Option Addr) (d1 : Nat) (m1 : List S40) (B2 : Option Addr) (d2 : Nat) (m2 : List Int) (r1 r2 : Int) (w : World) (hr1 : Kd.C k40 w A1 l1.length l1) (hc1 : l1.length ≤ c1) (hr2 : Kd.C (Kd.int .i64) w A2 l2.length l2) (hc2 : l2.length ≤ c2) (hs1 : Kd.C k40 w B1 m1.length m1) (hd1 : m1.length ≤ d1) (hs2 : Kd.C (Kd.int .i64) w B2 m2.length m2) (hd2 : m2.length ≤ d2) (h : gate_Same.f a0 l1 l2 b0 m1 m2 = some (r1, r2)) :
    Calls Try.prog 38 #[.agg #[.int .i64 a0, .slice A1 l1.length c1, .slice A2 l2.length c2], .agg #[.int .i64 b0, .slice B1 m1.length d1, .slice B2 m2.length d2]] w fun e w' => e = .returned (.tuple #[.int .i64 r1, .int .i64 r2]) ∧ Below w.heap.size w w' := by
  unfold gate_Same.f at h
  injection h with h
  have hno : ¬ ((okC a0 l1 l2 = true ∧ okC b0 m1 m2 = true) ∧ a0 = b0 ∧ l2.length = m2.length) → r1 = 0 ∧ r2 = 2 := fun hn => by
    rw [if_neg hn] at h
    injection h with h1 h2
    exact ⟨h1.symm, h2.symm⟩
  cases ha : okC a0 l1 l2 with
  | false =>
    obtain ⟨rfl, rfl⟩ := hno (fun e => by have := e.1.1; rw [ha] at this; cases this)
    cases hb : okC b0 m1 m2 with
    | false => exact same_nil1 a0 b0 A1 c1 l1 A2 c2 l2 B1 d1 m1 B2 d2 m2 w hr1 hc1 hr2 hc2 hs1 hd1 hs2 hd2 ha hb
    | true =>
      obtain ⟨M, rfl⟩ : ∃ M : Nat, b0 = (M : Int) := ⟨b0.toNat, by have := okC_small hb; omega⟩
      exact same_nil2 a0 M A1 c1 l1 A2 c2 l2 B1 d1 m1 B2 d2 m2 w hr1 hc1 hr2 hc2 hs1 hd1 hs2 hd2 ha hb
  | true =>
    obtain ⟨N, rfl⟩ : ∃ N : Nat, a0 = (N : Int) := ⟨a0.toNat, by have := okC_small ha; omega⟩
    cases hb : okC b0 m1 m2 with
    | false =>
      obtain ⟨rfl, rfl⟩ := hno (fun e => by have := e.1.2; rw [hb] at this; cases this)
      exact same_nil3 N b0 A1 c1 l1 A2 c2 l2 B1 d1 m1 B2 d2 m2 w hr1 hc1 hr2 hc2 hs1 hd1 hs2 hd2 ha hb
    | true =>
      obtain ⟨M, rfl⟩ : ∃ M : Nat, b0 = (M : Int) := ⟨b0.toNat, by have := okC_small hb; omega⟩
      by_cases hN : N = M
      · subst hN
        by_cases hl : l2.length = m2.length
        · rw [if_pos ⟨⟨ha, hb⟩, rfl, hl⟩, Int.toNat_natCast] at h
          exact same_main N m2.length A1 c1 l1 A2 c2 l2 B1 d1 m1 B2 d2 m2 w hr1 hc1 hr2 hc2 hs1 hd1 hs2 hd2 ha hb hl rfl r1 r2 h
        · obtain ⟨rfl, rfl⟩ := hno (fun e => hl e.2.2)
          exact same_len N l2.length m2.length A1 c1 l1 A2 c2 l2 B1 d1 m1 B2 d2 m2 w hr1 hc1 hr2 hc2 hs1 hd1 hs2 hd2 ha hb rfl rfl hl
      · obtain ⟨rfl, rfl⟩ := hno (fun e => hN (by have := e.2.1; omega))
        exact same_ne N M l2.length m2.length A1 c1 l1 A2 c2 l2 B1 d1 m1 B2 d2 m2 w hr1 hc1 hr2 hc2 hs1 hd1 hs2 hd2 ha hb rfl rfl hN
end Go.Proofs.Ytelfalicickelaa.P
