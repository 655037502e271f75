/- Texts of this claim, merged by a program (shake.py): what the last theorem reaches of QOut, GateN, QCirc, QOfA, QOf. -/
import Derived.Deep.DeepMust
import Derived.Laws.NewBlocks
import Derived.BigQuiet
import Derived.Deep.AppendLies
import Derived.Deep.RegionHeld3
import Derived.Test.YtelfalicickelaaKGR10
set_option linter.unusedSimpArgs false
set_option linter.unusedVariables false
namespace Go.Proofs.Ytelfalicickelaa.P
open Go.Lib Go.RowKit Go.Proofs.YtelfalicickelaaW.PrintWords Go.Proofs.YtelfalicickelaaW.PrintLast Go.Proofs.YtelfalicickelaaW.PrintMore Go.Proofs.Ytelfalicickelaa.Kit
def nI (l : List Nat) : List Int := l.map fun (x : Nat) => (x : Int)
theorem nI_length (l : List Nat) : (nI l).length = l.length := List.length_map ..
theorem rd_nI (l : List Nat) (i : Nat) : rd (nI l) (i : Int) = (l.getD i 0 : Int) := by
  unfold rd nI
  rw [Int.toNat_natCast]
  by_cases h : i < l.length
  · simp [List.getD_eq_getElem?_getD, h]
  · simp [List.getD_eq_getElem?_getD, h]
def W64 (l : List Nat) : Prop := ∀ i, l.getD i 0 < 18446744073709551616
theorem cell_new (w : World) (cs : Array Value) (t : TypeId) (i : Nat) {v : Value} (h : cs[i]? = some v) : (w.alloc (.cells cs t)).cell? ⟨w.heap.size, i, none⟩ = some v := by
  unfold World.cell?
  rw [heap_alloc_new]
  exact h
theorem oru64 (x y : Nat) (hx : x < 18446744073709551616) (hy : y < 18446744073709551616) : Go.bits .or .u64 (x : Int) (y : Int) = ((x ||| y : Nat) : Int) := by
  have hw : ∀ n : Int, 0 ≤ n → n < 2 ^ 64 → IntKind.u64.wrap n = n := fun n h0 h1 => by
    obtain ⟨m, rfl⟩ := Int.eq_ofNat_of_zero_le h0
    exact u64w (by have : (m : Int) < 18446744073709551616 := by simpa using h1
                   omega)
  exact (bits_nat .u64 64 (by decide) hw x y (by simpa using hx) (by simpa using hy)).2
theorem xoru64 (x y : Nat) (hx : x < 18446744073709551616) (hy : y < 18446744073709551616) : Go.bits .xor .u64 (x : Int) (y : Int) = ((x ^^^ y : Nat) : Int) := by
  have hx' : x % 2 ^ 64 = x := Nat.mod_eq_of_lt (by simpa using hx)
  have hy' : y % 2 ^ 64 = y := Nat.mod_eq_of_lt (by simpa using hy)
  have hb : IntKind.u64.bits = 64 := rfl
  have hlt : x ^^^ y < 2 ^ 64 := Nat.xor_lt_two_pow (by simpa using hx) (by simpa using hy)
  have hlt' : x ^^^ y < 18446744073709551616 := by simpa using hlt
  simp only [Go.bits, hb, BitVec.ofInt_natCast, BitVec.toNat_xor, BitVec.toNat_ofNat, hx', hy']
  exact u64w hlt'
theorem notu64 (x : Nat) (hx : x < 18446744073709551616) : Go.bits .xor .u64 IntKind.u64.max (x : Int) = ((18446744073709551615 ^^^ x : Nat) : Int) := xoru64 18446744073709551615 x (by decide) hx
theorem and_lt64 {x y : Nat} (hx : x < 18446744073709551616) (hy : y < 18446744073709551616) : x &&& y < 18446744073709551616 := Nat.lt_of_le_of_lt Nat.and_le_left hx
theorem or_lt64 {x y : Nat} (hx : x < 18446744073709551616) (hy : y < 18446744073709551616) : x ||| y < 18446744073709551616 := by
  have := Nat.or_lt_two_pow (n := 64) (x := x) (y := y) (by simpa using hx) (by simpa using hy)
  simpa using this
set_option maxHeartbeats 4000000
set_option maxRecDepth 100000
theorem and_out (a b : Nat) (A : Option Addr) (c : Nat) (l : List Nat) (w : World) (hr : Kd.C (Kd.int .u64) w A (nI l).length (nI l)) (h64 : W64 l) (ha : a < l.length) (hb : b < l.length) :
    Calls Try.prog 118 #[.agg #[.int .i64 (a : Int), .int .i64 (b : Int)], .slice A (nI l).length c] w fun e w' => e = .returned (.int .u64 ((l.getD a 0 &&& l.getD b 0 : Nat) : Int)) ∧ Below w.heap.size w w' := by
  have HB := Aside0.mk (Below.refl w.heap.size w)
  have hv := andu64 (l.getD a 0) (l.getD b 0) (h64 a) (h64 b)
  have hla : a < (nI l).length := by rw [nI_length]; exact ha
  have hlb : b < (nI l).length := by rw [nI_length]; exact hb
  obtain ⟨ad, e1, hx⟩ := Kd.at_int hr (a : Int) (by omega) (by omega)
  subst e1
  obtain ⟨ad', e2, hy⟩ := Kd.at_int hr (b : Int) (by omega) (by omega)
  injection e2 with e2
  subst e2
  rw [rd_nI, Int.toNat_natCast] at hx hy
  have q1 := eq_true hla
  have q2 := eq_true hlb
  have q3 := eq_true (show (a : Int) < ((nI l).length : Int) by omega)
  have q4 := eq_true (show (b : Int) < ((nI l).length : Int) by omega)
  generalize l.getD a 0 = x at *
  generalize l.getD b 0 = y at *
  generalize (nI l).length = n at *
  have HV := Aside0.mk hv
  clear hr h64 ha hb hla hlb hv
  go_enter Try.func118, Try.ntmps118
  go_wp2
  have HX := Aside0.mk (show Below w.heap.size w (w.alloc (.cells #[.int .i64 (a : Int), .int .i64 (b : Int)] 122)) from below_alloc HB.out _)
  have hc0 : (w.alloc (.cells #[.int .i64 (a : Int), .int .i64 (b : Int)] 122)).cell? ⟨w.heap.size, 0, none⟩ = some (.int .i64 (a : Int)) := cell_new _ _ _ _ rfl
  have hc1 : (w.alloc (.cells #[.int .i64 (a : Int), .int .i64 (b : Int)] 122)).cell? ⟨w.heap.size, 1, none⟩ = some (.int .i64 (b : Int)) := cell_new _ _ _ _ rfl
  replace hx := pw_cell_below HX.out hx
  replace hy := pw_cell_below HX.out hy
  generalize (w.alloc (.cells #[.int .i64 (a : Int), .int .i64 (b : Int)] 122)) = w1 at *
  go_quiet (fail)
  go_wp2
  go_ret
  exact ⟨by rw [← HV.out]; rfl, by repeat (first | exact HX.out | apply pw_below_drewN | apply below_drew1)⟩
theorem or_out (a b : Nat) (A : Option Addr) (c : Nat) (l : List Nat) (w : World) (hr : Kd.C (Kd.int .u64) w A (nI l).length (nI l)) (h64 : W64 l) (ha : a < l.length) (hb : b < l.length) :
    Calls Try.prog 119 #[.agg #[.int .i64 (a : Int), .int .i64 (b : Int)], .slice A (nI l).length c] w fun e w' => e = .returned (.int .u64 ((l.getD a 0 ||| l.getD b 0 : Nat) : Int)) ∧ Below w.heap.size w w' := by
  have HB := Aside0.mk (Below.refl w.heap.size w)
  have hv := oru64 (l.getD a 0) (l.getD b 0) (h64 a) (h64 b)
  have hla : a < (nI l).length := by rw [nI_length]; exact ha
  have hlb : b < (nI l).length := by rw [nI_length]; exact hb
  obtain ⟨ad, e1, hx⟩ := Kd.at_int hr (a : Int) (by omega) (by omega)
  subst e1
  obtain ⟨ad', e2, hy⟩ := Kd.at_int hr (b : Int) (by omega) (by omega)
  injection e2 with e2
  subst e2
  rw [rd_nI, Int.toNat_natCast] at hx hy
  have q1 := eq_true hla
  have q2 := eq_true hlb
  have q3 := eq_true (show (a : Int) < ((nI l).length : Int) by omega)
  have q4 := eq_true (show (b : Int) < ((nI l).length : Int) by omega)
  generalize l.getD a 0 = x at *
  generalize l.getD b 0 = y at *
  generalize (nI l).length = n at *
  have HV := Aside0.mk hv
  clear hr h64 ha hb hla hlb hv
  go_enter Try.func119, Try.ntmps119
  go_wp2
  have HX := Aside0.mk (show Below w.heap.size w (w.alloc (.cells #[.int .i64 (a : Int), .int .i64 (b : Int)] 123)) from below_alloc HB.out _)
  have hc0 : (w.alloc (.cells #[.int .i64 (a : Int), .int .i64 (b : Int)] 123)).cell? ⟨w.heap.size, 0, none⟩ = some (.int .i64 (a : Int)) := cell_new _ _ _ _ rfl
  have hc1 : (w.alloc (.cells #[.int .i64 (a : Int), .int .i64 (b : Int)] 123)).cell? ⟨w.heap.size, 1, none⟩ = some (.int .i64 (b : Int)) := cell_new _ _ _ _ rfl
  replace hx := pw_cell_below HX.out hx
  replace hy := pw_cell_below HX.out hy
  generalize (w.alloc (.cells #[.int .i64 (a : Int), .int .i64 (b : Int)] 123)) = w1 at *
  go_quiet (fail)
  go_wp2
  go_ret
  exact ⟨by rw [← HV.out]; rfl, by repeat (first | exact HX.out | apply pw_below_drewN | apply below_drew1)⟩
theorem xor_out (a b : Nat) (A : Option Addr) (c : Nat) (l : List Nat) (w : World) (hr : Kd.C (Kd.int .u64) w A (nI l).length (nI l)) (h64 : W64 l) (ha : a < l.length) (hb : b < l.length) :
    Calls Try.prog 120 #[.agg #[.int .i64 (a : Int), .int .i64 (b : Int)], .slice A (nI l).length c] w fun e w' => e = .returned (.int .u64 ((l.getD a 0 ^^^ l.getD b 0 : Nat) : Int)) ∧ Below w.heap.size w w' := by
  have HB := Aside0.mk (Below.refl w.heap.size w)
  have hv := xoru64 (l.getD a 0) (l.getD b 0) (h64 a) (h64 b)
  have hla : a < (nI l).length := by rw [nI_length]; exact ha
  have hlb : b < (nI l).length := by rw [nI_length]; exact hb
  obtain ⟨ad, e1, hx⟩ := Kd.at_int hr (a : Int) (by omega) (by omega)
  subst e1
  obtain ⟨ad', e2, hy⟩ := Kd.at_int hr (b : Int) (by omega) (by omega)
  injection e2 with e2
  subst e2
  rw [rd_nI, Int.toNat_natCast] at hx hy
  have q1 := eq_true hla
  have q2 := eq_true hlb
  have q3 := eq_true (show (a : Int) < ((nI l).length : Int) by omega)
  have q4 := eq_true (show (b : Int) < ((nI l).length : Int) by omega)
  generalize l.getD a 0 = x at *
  generalize l.getD b 0 = y at *
  generalize (nI l).length = n at *
  have HV := Aside0.mk hv
  clear hr h64 ha hb hla hlb hv
  go_enter Try.func120, Try.ntmps120
  go_wp2
  have HX := Aside0.mk (show Below w.heap.size w (w.alloc (.cells #[.int .i64 (a : Int), .int .i64 (b : Int)] 124)) from below_alloc HB.out _)
  have hc0 : (w.alloc (.cells #[.int .i64 (a : Int), .int .i64 (b : Int)] 124)).cell? ⟨w.heap.size, 0, none⟩ = some (.int .i64 (a : Int)) := cell_new _ _ _ _ rfl
  have hc1 : (w.alloc (.cells #[.int .i64 (a : Int), .int .i64 (b : Int)] 124)).cell? ⟨w.heap.size, 1, none⟩ = some (.int .i64 (b : Int)) := cell_new _ _ _ _ rfl
  replace hx := pw_cell_below HX.out hx
  replace hy := pw_cell_below HX.out hy
  generalize (w.alloc (.cells #[.int .i64 (a : Int), .int .i64 (b : Int)] 124)) = w1 at *
  go_quiet (fail)
  go_wp2
  go_ret
  exact ⟨by rw [← HV.out]; rfl, by repeat (first | exact HX.out | apply pw_below_drewN | apply below_drew1)⟩
theorem not_out (a : Nat) (A : Option Addr) (c : Nat) (l : List Nat) (w : World) (hr : Kd.C (Kd.int .u64) w A (nI l).length (nI l)) (h64 : W64 l) (ha : a < l.length) :
    Calls Try.prog 117 #[.agg #[.int .i64 (a : Int)], .slice A (nI l).length c] w fun e w' => e = .returned (.int .u64 ((18446744073709551615 ^^^ l.getD a 0 : Nat) : Int)) ∧ Below w.heap.size w w' := by
  have HB := Aside0.mk (Below.refl w.heap.size w)
  have hla : a < (nI l).length := by rw [nI_length]; exact ha
  obtain ⟨ad, e1, hx⟩ := Kd.at_int hr (a : Int) (by omega) (by omega)
  subst e1
  rw [rd_nI, Int.toNat_natCast] at hx
  have H64 := Aside0.mk (h64 a)
  have q1 := eq_true hla
  have q3 := eq_true (show (a : Int) < ((nI l).length : Int) by omega)
  generalize l.getD a 0 = x at *
  generalize (nI l).length = n at *
  replace hx := pw_cell_below (show Below w.heap.size w (w.alloc (.cells #[.int .i64 (a : Int)] 118)) from below_alloc HB.out _) hx
  clear hr h64 ha hla
  go_enter Try.func117, Try.ntmps117
  go_wp2
  go_ret
  exact ⟨by rw [← notu64 x H64.out]; rfl, below_alloc HB.out _⟩
theorem opp_and_out (a b : Nat) (A : Option Addr) (c : Nat) (l : List Nat) (w : World) (hr : Kd.C (Kd.int .u64) w A (nI l).length (nI l)) (h64 : W64 l) (ha : a < l.length) (hb : b < l.length) :
    Calls Try.prog 116 #[.agg #[pairV 122 (a : Int) (b : Int)], .slice A (nI l).length c] w fun e w' => e = .returned (.int .u64 ((18446744073709551615 ^^^ (l.getD a 0 &&& l.getD b 0) : Nat) : Int)) ∧ Below w.heap.size w w' := by
  have HB := Aside0.mk (Below.refl w.heap.size w)
  have hv := notu64 (l.getD a 0 &&& l.getD b 0) (and_lt64 (h64 a) (h64 b))
  have HV := Aside0.mk hv
  have hP := and_out a b A c l (w.alloc (.cells #[pairV 122 (a : Int) (b : Int)] 116)) (Kd.C_below hr (below_alloc HB.out _)) h64 ha hb
  have HP := Aside0.mk hP
  generalize l.getD a 0 &&& l.getD b 0 = x at *
  clear hr h64 ha hb hv hP
  unfold pairV at *
  go_enter Try.func116, Try.ntmps116
  go_wp2_with (go_at_call 118; (refine (HP.out).mono ?_); rintro e w' ⟨rfl, hb⟩; have HB2 := Aside0.mk hb; clear hb)
  go_ret
  exact ⟨by rw [← HV.out]; rfl, (below_alloc HB.out _).trans (HB2.out.mono (by simp only [World.size_alloc]; omega))⟩
theorem opp_or_out (a b : Nat) (A : Option Addr) (c : Nat) (l : List Nat) (w : World) (hr : Kd.C (Kd.int .u64) w A (nI l).length (nI l)) (h64 : W64 l) (ha : a < l.length) (hb : b < l.length) :
    Calls Try.prog 116 #[.agg #[pairV 123 (a : Int) (b : Int)], .slice A (nI l).length c] w fun e w' => e = .returned (.int .u64 ((18446744073709551615 ^^^ (l.getD a 0 ||| l.getD b 0) : Nat) : Int)) ∧ Below w.heap.size w w' := by
  have HB := Aside0.mk (Below.refl w.heap.size w)
  have hv := notu64 (l.getD a 0 ||| l.getD b 0) (or_lt64 (h64 a) (h64 b))
  have HV := Aside0.mk hv
  have hP := or_out a b A c l (w.alloc (.cells #[pairV 123 (a : Int) (b : Int)] 116)) (Kd.C_below hr (below_alloc HB.out _)) h64 ha hb
  have HP := Aside0.mk hP
  generalize l.getD a 0 ||| l.getD b 0 = x at *
  clear hr h64 ha hb hv hP
  unfold pairV at *
  go_enter Try.func116, Try.ntmps116
  go_wp2_with (go_at_call 119; (refine (HP.out).mono ?_); rintro e w' ⟨rfl, hb⟩; have HB2 := Aside0.mk hb; clear hb)
  go_ret
  exact ⟨by rw [← HV.out]; rfl, (below_alloc HB.out _).trans (HB2.out.mono (by simp only [World.size_alloc]; omega))⟩
end Go.Proofs.Ytelfalicickelaa.P
namespace Go.Proofs.Ytelfalicickelaa.GT
def num : List Bool → Nat
  | [] => 0
  | b :: l => b.toNat + 2 * num l
theorem num_lt : ∀ l : List Bool, num l < 2 ^ l.length
  | [] => by decide
  | b :: l => by
    have := num_lt l
    rw [List.length_cons, Nat.pow_succ]
    unfold num
    cases b <;> simp <;> omega
theorem num_bit : ∀ (l : List Bool) (i : Nat), (num l).testBit i = l.getD i false
  | [], i => by simp [num]
  | b :: l, 0 => by
    unfold num
    rw [Nat.testBit_zero]
    cases b <;> simp <;> omega
  | b :: l, i + 1 => by
    unfold num
    rw [Nat.testBit_succ, show (b.toNat + 2 * num l) / 2 = num l by cases b <;> simp <;> omega, num_bit l i]
    simp
theorem num_append (l : List Bool) (b : Bool) : num (l ++ [b]) = num l + b.toNat * 2 ^ l.length := by
  induction l with
  | nil => simp [num]
  | cons c l ih =>
    rw [List.cons_append, num, ih, num, List.length_cons, Nat.pow_succ]
    rw [Nat.mul_add, Nat.add_assoc, show 2 * (b.toNat * 2 ^ l.length) = b.toNat * (2 ^ l.length * 2) by rw [Nat.mul_comm 2, Nat.mul_assoc]]
theorem num_inj {l m : List Bool} (hl : l.length = m.length) (h : num l = num m) : l = m := by
  refine List.ext_getElem hl fun i h1 h2 => ?_
  have h3 := congrArg (fun x => x.testBit i) h
  simp only [num_bit] at h3
  simpa [List.getD_eq_getElem?_getD, h1, h2] using h3
structure G where
  k : Nat
  a : Nat
  b : Nat
deriving DecidableEq, Repr
structure C where
  n : Nat
  gs : List G
  os : List Nat
deriving DecidableEq, Repr
def gv (k : Nat) (x y : Bool) : Bool :=
  match k with
  | 0 => x && y
  | 1 => x || y
  | 2 => x ^^ y
  | 3 => !(x && y)
  | 4 => !(x || y)
  | _ => !x
def put (F : Option Nat) (i : Nat) (x : Bool) : Bool :=
  match F with
  | none => x
  | some f => if f / 2 = i then f % 2 == 1 else x
theorem put_pos {f i : Nat} (x : Bool) (h : f / 2 = i) : put (some f) i x = (f % 2 == 1) := by simp [put, h]
theorem put_neg {f i : Nat} (x : Bool) (h : f / 2 ≠ i) : put (some f) i x = x := by simp [put, h]
def stepG (F : Option Nat) (l : List Bool) (g : G) : List Bool := l ++ [put F l.length (gv g.k (l.getD g.a false) (l.getD g.b false))]
def ins (n : Nat) (F : Option Nat) (v : Nat) : List Bool := (List.range n).map fun i => put F i (v.testBit i)
def vals (c : C) (F : Option Nat) (v : Nat) : List Bool := c.gs.foldl (stepG F) (ins c.n F v)
def lines (c : C) : Nat := c.n + c.gs.length
def outs (c : C) (F : Option Nat) (v : Nat) : List Bool := c.os.map fun o => (vals c F v).getD o false
def reply (c : C) (F : Option Nat) (v : Nat) : Nat := num (outs c F v)
def wd (n : Nat) (p : Nat → Bool) : Nat := num ((List.range (2 ^ n)).map p)
theorem wd_bit (n : Nat) (p : Nat → Bool) (v : Nat) : (wd n p).testBit v = (decide (v < 2 ^ n) && p v) := by
  unfold wd
  rw [num_bit]
  by_cases h : v < 2 ^ n
  · simp [List.getD_eq_getElem?_getD, h]
  · simp [List.getD_eq_getElem?_getD, h]
theorem wd_lt (n : Nat) (p : Nat → Bool) : wd n p < 2 ^ 2 ^ n := by
  have := num_lt ((List.range (2 ^ n)).map p)
  simpa [wd] using this
theorem nat_ext {a b : Nat} (h : ∀ i, a.testBit i = b.testBit i) : a = b := Nat.eq_of_testBit_eq h
theorem vals_length (c : C) (F : Option Nat) (v : Nat) : (vals c F v).length = lines c := by
  unfold vals lines
  have : ∀ (gs : List G) (l : List Bool), (gs.foldl (stepG F) l).length = l.length + gs.length := by
    intro gs
    induction gs with
    | nil => intro l; rfl
    | cons g gs ih => intro l; rw [List.foldl_cons, ih]; unfold stepG; simp; omega
  rw [this]
  simp [ins]
theorem outs_length (c : C) (F : Option Nat) (v : Nat) : (outs c F v).length = c.os.length := by simp [outs]
theorem foldl_prefix (F : Option Nat) : ∀ (gs : List G) (l : List Bool), l <+: gs.foldl (stepG F) l
  | [], l => List.prefix_rfl
  | g :: gs, l => by
    rw [List.foldl_cons]
    exact (List.prefix_append l _).trans (foldl_prefix F gs (stepG F l g))
theorem prefix_getD {l m : List Bool} (h : l <+: m) {j : Nat} (hj : j < l.length) : m.getD j false = l.getD j false := by
  obtain ⟨t, rfl⟩ := h
  simp [List.getD_eq_getElem?_getD, List.getElem?_append_left hj]
theorem ins_length (n : Nat) (F : Option Nat) (v : Nat) : (ins n F v).length = n := by simp [ins]
theorem vals_in (c : C) (F : Option Nat) (v : Nat) {j : Nat} (hj : j < c.n) : (vals c F v).getD j false = put F j (v.testBit j) := by
  unfold vals
  rw [prefix_getD (foldl_prefix F c.gs _) (by rw [ins_length]; exact hj)]
  simp [ins, List.getD_eq_getElem?_getD, hj]
theorem fold_length (F : Option Nat) : ∀ (gs : List G) (l : List Bool), (gs.foldl (stepG F) l).length = l.length + gs.length
  | [], l => rfl
  | g :: gs, l => by rw [List.foldl_cons, fold_length F gs]; unfold stepG; simp; omega
structure Ok (c : C) : Prop where
  n1 : 1 ≤ c.n
  n6 : c.n ≤ 6
  g16 : c.gs.length ≤ 16
  o1 : 1 ≤ c.os.length
  o4 : c.os.length ≤ 4
  g : ∀ i (h : i < c.gs.length), c.gs[i].k ≤ 5 ∧ c.gs[i].a < c.n + i ∧ c.gs[i].b < c.n + i ∧ (c.gs[i].k = 5 → c.gs[i].b = 0)
  o : ∀ x, x ∈ c.os → x < c.n + c.gs.length
theorem vals_gate' (c : C) (F : Option Nat) (v : Nat) {i : Nat} (hi : i < c.gs.length) (ha : c.gs[i].a < c.n + i) (hb : c.gs[i].b < c.n + i) :
    (vals c F v).getD (c.n + i) false = put F (c.n + i) (gv c.gs[i].k ((vals c F v).getD c.gs[i].a false) ((vals c F v).getD c.gs[i].b false)) := by
  have e : c.gs = c.gs.take i ++ c.gs[i] :: c.gs.drop (i + 1) := by
    rw [List.getElem_cons_drop, List.take_append_drop]
  obtain ⟨l, hl⟩ : ∃ l, (c.gs.take i).foldl (stepG F) (ins c.n F v) = l := ⟨_, rfl⟩
  have hlen : l.length = c.n + i := by rw [← hl, fold_length, ins_length, List.length_take]; omega
  have hv : vals c F v = (c.gs.drop (i + 1)).foldl (stepG F) (stepG F l c.gs[i]) := by
    unfold vals
    conv => lhs; rw [e]
    rw [List.foldl_append, List.foldl_cons, hl]
  have hp1 : stepG F l c.gs[i] <+: vals c F v := by rw [hv]; exact foldl_prefix F _ _
  have hp0 : l <+: vals c F v := (List.prefix_append l _).trans hp1
  rw [prefix_getD hp0 (j := c.gs[i].a) (by omega), prefix_getD hp0 (j := c.gs[i].b) (by omega), prefix_getD hp1 (j := c.n + i) (by unfold stepG; simp; omega)]
  unfold stepG
  rw [List.getD_eq_getElem?_getD, List.getElem?_append_right (by omega), hlen]
  simp
theorem vals_gate {c : C} (hc : Ok c) (F : Option Nat) (v : Nat) {i : Nat} (hi : i < c.gs.length) :
    (vals c F v).getD (c.n + i) false = put F (c.n + i) (gv c.gs[i].k ((vals c F v).getD c.gs[i].a false) ((vals c F v).getD c.gs[i].b false)) :=
  vals_gate' c F v hi (hc.g i hi).2.1 (hc.g i hi).2.2.1
def wline (c : C) (F : Option Nat) (j : Nat) : Nat := wd c.n fun v => (vals c F v).getD j false
def words (c : C) (F : Option Nat) (i : Nat) : List Nat := (List.range i).map (wline c F)
def outsW (c : C) (F : Option Nat) : List Nat := c.os.map (wline c F)
theorem words_succ (c : C) (F : Option Nat) (i : Nat) : words c F (i + 1) = words c F i ++ [wline c F i] := by simp [words, List.range_succ]
theorem words_get (c : C) (F : Option Nat) {i j : Nat} (h : j < i) : (words c F i).getD j 0 = wline c F j := by simp [words, List.getD_eq_getElem?_getD, h]
theorem wline_lt (c : C) (F : Option Nat) (j : Nat) : wline c F j < 2 ^ 2 ^ c.n := wd_lt _ _
def shows (c : C) (f : Nat) : Nat := wd c.n fun v => decide (reply c (some f) v ≠ reply c none v)
theorem reply_ne (c : C) (F F' : Option Nat) (v : Nat) : (reply c F v = reply c F' v) ↔ ∀ o, o ∈ c.os → (vals c F v).getD o false = (vals c F' v).getD o false := by
  unfold reply
  constructor
  · intro h o ho
    have h2 := num_inj (by rw [outs_length, outs_length]) h
    unfold outs at h2
    exact List.map_inj_left.1 h2 o ho
  · intro h
    congr 1
    exact List.map_inj_left.2 h
end Go.Proofs.Ytelfalicickelaa.GT
set_option linter.unusedSimpArgs false
set_option linter.unusedVariables false
namespace Go.Proofs.Ytelfalicickelaa.P
open Go.Lib Go.RowKit Go.Proofs.YtelfalicickelaaW.PrintWords Go.Proofs.YtelfalicickelaaW.PrintLast Go.Proofs.YtelfalicickelaaW.PrintMore Go.Proofs.Ytelfalicickelaa.Kit
def unitOf (s : S40) : Value := unitV s.f0 s.f1 s.f2
def CircAt (W : World) (g : Nat) (N : Nat) (ls : List S40) (os : List Int) : Prop :=
  ∃ A1 c1 A2 c2 Au cu, W.heap[g]? = some (.cells #[.int .i64 (N : Int), .slice A1 ls.length c1, .slice A2 os.length c2, .slice Au ls.length cu] 100 (0, 0)) ∧ Kd.C k40 W A1 ls.length ls ∧ ls.length ≤ c1 ∧ Kd.C (Kd.int .i64) W A2 os.length os ∧ os.length ≤ c2 ∧
    ∀ j (h : j < ls.length), ∃ ad, Au = some ad ∧ W.cell? (ad.add j) = some (unitOf ls[j])
theorem CircAt.keep {W W' : World} {g N : Nat} {ls : List S40} {os : List Int} (h : CircAt W g N ls os) (hb : Below W.heap.size W W') : CircAt W' g N ls os := by
  obtain ⟨A1, c1, A2, c2, Au, cu, h1, h2, h3, h4, h5, h6⟩ := h
  refine ⟨A1, c1, A2, c2, Au, cu, (hb.block g (Array.getElem?_eq_some_iff.1 h1).1).trans h1, Kd.C_below h2 hb, h3, Kd.C_below h4 hb, h5, fun j hj => ?_⟩
  obtain ⟨ad, e, hc⟩ := h6 j hj
  exact ⟨ad, e, pw_cell_below hb hc⟩
theorem CircAt.drewN {W : World} {g N : Nat} {ls : List S40} {os : List Int} (h : CircAt W g N ls os) (n : Nat) : CircAt (W.drewN n) g N ls os := h.keep (pw_below_drewN (Below.refl _ _) _)
theorem blkc {w : World} {g : Nat} {cs : Array Value} {t : TypeId} {f : Nat × Nat} (h : w.heap[g]? = some (.cells cs t f)) (i : Nat) {v : Value} (hv : cs[i]? = some v) : w.cell? ⟨g, i, none⟩ = some v := by
  unfold World.cell?
  rw [h]
  exact hv
set_option maxHeartbeats 4000000
set_option maxRecDepth 100000
theorem lines_calls {w : World} {g N : Nat} {ls : List S40} {os : List Int} (h : CircAt w g N ls os) (hN : N ≤ 6) (hl : ls.length ≤ 16) :
    Calls Try.prog 83 #[.pointer (some ⟨g, 0, none⟩)] w fun e w' => e = .returned (.int .i64 ((N + ls.length : Nat) : Int)) ∧ Drawn0 w w' := by
  obtain ⟨A1, c1, A2, c2, Au, cu, h1, _⟩ := h
  have hc0 := blkc h1 0 rfl
  have hc3 := blkc h1 3 rfl
  have hw : wrap64 ((N : Int) + (ls.length : Int)) = ((N + ls.length : Nat) : Int) := by rw [w64 (by omega) (by omega)]; omega
  have HW := Aside0.mk hw
  clear h1 hw
  go_enter Try.func83, Try.ntmps83
  go_wp2
  go_quiet (fail)
  go_wp2
  go_ret
  exact ⟨rfl, ⟨_, rfl⟩⟩
theorem wpow {N : Nat} (hN : N ≤ 62) : wrap64 (2 ^ N) = ((2 ^ N : Nat) : Int) := by
  have h3 : ((2 : Int) ^ N) = ((2 ^ N : Nat) : Int) := by simp
  rw [h3]
  have := pow_le62 hN
  generalize 2 ^ N = p at *
  exact w64n p (by omega)
theorem vectors_calls {w : World} {g N : Nat} {ls : List S40} {os : List Int} (h : CircAt w g N ls os) (hN : N ≤ 6) :
    Calls Try.prog 70 #[.pointer (some ⟨g, 0, none⟩)] w fun e w' => e = .returned (.int .i64 ((2 ^ N : Nat) : Int)) ∧ Drawn0 w w' := by
  obtain ⟨A1, c1, A2, c2, Au, cu, h1, _⟩ := h
  have hc0 := blkc h1 0 rfl
  have hw := wpow (N := N) (by omega)
  have HW := Aside0.mk hw
  clear h1 hw
  go_enter Try.func70, Try.ntmps70
  go_wp2
  go_ret
  exact ⟨by rw [← HW.out]; rfl, Drawn0.refl _⟩
theorem shl_all {N : Nat} (hN : N ≤ 6) : IntKind.u64.wrap (IntKind.u64.wrap (2 ^ min ((2 ^ N : Nat) : Int).toNat 64) - 1) = ((2 ^ 2 ^ N - 1 : Nat) : Int) := by
  have : N = 0 ∨ N = 1 ∨ N = 2 ∨ N = 3 ∨ N = 4 ∨ N = 5 ∨ N = 6 := by omega
  rcases this with rfl | rfl | rfl | rfl | rfl | rfl | rfl <;> decide +kernel
theorem all_calls {w : World} {g N : Nat} {ls : List S40} {os : List Int} (h : CircAt w g N ls os) (hN : N ≤ 6) :
    Calls Try.prog 63 #[.pointer (some ⟨g, 0, none⟩)] w fun e w' => e = .returned (.int .u64 ((2 ^ 2 ^ N - 1 : Nat) : Int)) ∧ Drawn0 w w' := by
  have HV := Aside0.mk (vectors_calls h hN)
  have HW := Aside0.mk (shl_all hN)
  obtain ⟨V, hV⟩ : ∃ V : Int, ((2 ^ N : Nat) : Int) = V := ⟨_, rfl⟩
  have hV0 : 0 ≤ V := by rw [← hV]; exact Int.natCast_nonneg _
  rw [hV] at HV HW
  have hp : decide (V < 0) = false := decide_eq_false (by omega)
  have hp2 : decide (0 ≤ V) = true := decide_eq_true (by omega)
  clear h hN
  go_enter Try.func63, Try.ntmps63
  go_wp2_with (go_at_call 70; (refine (HV.out).mono ?_); rintro e w' ⟨rfl, ⟨nd, rfl⟩⟩)
  go_ret
  exact ⟨by rw [← HW.out]; rfl, ⟨_, rfl⟩⟩
theorem failures_calls {w : World} {g N : Nat} {ls : List S40} {os : List Int} (h : CircAt w g N ls os) (hN : N ≤ 6) (hl : ls.length ≤ 16) :
    Calls Try.prog 55 #[.pointer (some ⟨g, 0, none⟩)] w fun e w' => e = .returned (.int .i64 ((2 * (N + ls.length) : Nat) : Int)) ∧ Drawn0 w w' := by
  have HV := Aside0.mk (lines_calls h hN hl)
  have hw : wrap64 (2 * ((N + ls.length : Nat) : Int)) = ((2 * (N + ls.length) : Nat) : Int) := by rw [w64 (by omega) (by omega)]; omega
  have HW := Aside0.mk hw
  clear h hN hl hw
  go_enter Try.func55, Try.ntmps55
  go_wp2_with (go_at_call 83; (refine (HV.out).mono ?_); rintro e w' ⟨rfl, ⟨nd, rfl⟩⟩)
  go_ret
  exact ⟨by rw [← HW.out]; rfl, ⟨_, rfl⟩⟩
def failN (n : Nat) (L a : Int) : Int := if 0 ≤ L ∧ L < (n : Int) ∧ 0 ≤ a ∧ a ≤ 1 then 2 * L + a else -1
theorem failure_ok {w : World} {g N : Nat} {ls : List S40} {os : List Int} (L a : Int) (h : CircAt w g N ls os) (hN : N ≤ 6) (hl : ls.length ≤ 16) (hx : 0 ≤ L ∧ L < ((N + ls.length : Nat) : Int) ∧ 0 ≤ a ∧ a ≤ 1) :
    Calls Try.prog 73 #[.pointer (some ⟨g, 0, none⟩), .agg #[.int .i64 L, .int .i64 a]] w fun e w' => e = .returned (.int .i64 (failN (N + ls.length) L a)) ∧ Below w.heap.size w w' := by
  have HB := Aside0.mk (Below.refl w.heap.size w)
  have HX := Aside0.mk (show Below w.heap.size w (w.alloc (.cells #[.int .i64 L, .int .i64 a] 44)) from below_alloc HB.out _)
  have HV := Aside0.mk (fun n => lines_calls ((h.keep HX.out).drewN n) hN hl)
  have d1 : decide (L < 0) = false := decide_eq_false (by omega)
  have d2 : decide (((N + ls.length : Nat) : Int) ≤ L) = false := decide_eq_false (by omega)
  have d3 : decide (a < 0) = false := decide_eq_false (by omega)
  have d4 : decide (1 < a) = false := decide_eq_false (by omega)
  have hw1 : wrap64 (2 * L) = 2 * L := w64 (by omega) (by omega)
  have hw2 : wrap64 (2 * L + a) = 2 * L + a := w64 (by omega) (by omega)
  have HS := Aside0.mk (show wrap64 (wrap64 (2 * L) + a) = 2 * L + a by rw [hw1, hw2])
  have HR := Aside0.mk (show failN (N + ls.length) L a = 2 * L + a by unfold failN; rw [if_pos hx])
  clear hw1 hw2
  have hc0 : (w.alloc (.cells #[.int .i64 L, .int .i64 a] 44)).cell? ⟨w.heap.size, 0, none⟩ = some (.int .i64 L) := cell_new _ _ _ _ rfl
  have hc1 : (w.alloc (.cells #[.int .i64 L, .int .i64 a] 44)).cell? ⟨w.heap.size, 1, none⟩ = some (.int .i64 a) := cell_new _ _ _ _ rfl
  obtain ⟨M, hM⟩ : ∃ M, N + ls.length = M := ⟨_, rfl⟩
  rw [hM] at HV HR d2 ⊢
  clear h hN hl hM hx
  go_enter Try.func73, Try.ntmps73
  go_wp2
  generalize (w.alloc (.cells #[.int .i64 L, .int .i64 a] 44)) = w1 at *
  (go_quiet (first | (go_at_call 83; exact Calls.quiet_of ((HV.out _).mono (by rintro e w2 ⟨rfl, nd, rfl⟩; exact ⟨rfl, nd, rfl⟩)))))
  go_wp2
  go_ret
  exact ⟨by have e1 := HR.out; first | (rw [hM] at e1; rw [e1]; rfl) | (rw [e1]; rfl) | (rw [HR.out]; rw [← HS.out]; rfl) | rfl, by repeat (first | exact HX.out | apply pw_below_drewN | apply below_drew1)⟩
theorem failure_no0 {w : World} {g N : Nat} {ls : List S40} {os : List Int} (L a : Int) (h : CircAt w g N ls os) (hN : N ≤ 6) (hl : ls.length ≤ 16) (hx : L < 0) :
    Calls Try.prog 73 #[.pointer (some ⟨g, 0, none⟩), .agg #[.int .i64 L, .int .i64 a]] w fun e w' => e = .returned (.int .i64 (failN (N + ls.length) L a)) ∧ Below w.heap.size w w' := by
  have HB := Aside0.mk (Below.refl w.heap.size w)
  have HX := Aside0.mk (show Below w.heap.size w (w.alloc (.cells #[.int .i64 L, .int .i64 a] 44)) from below_alloc HB.out _)
  have HV := Aside0.mk (fun n => lines_calls ((h.keep HX.out).drewN n) hN hl)
  have d1 : decide (L < 0) = true := decide_eq_true hx
  have HS : Aside0 ((-1 : Int) = -1) := ⟨rfl⟩
  have HR := Aside0.mk (show failN (N + ls.length) L a = -1 by unfold failN; rw [if_neg (by omega)])
  have hc0 : (w.alloc (.cells #[.int .i64 L, .int .i64 a] 44)).cell? ⟨w.heap.size, 0, none⟩ = some (.int .i64 L) := cell_new _ _ _ _ rfl
  have hc1 : (w.alloc (.cells #[.int .i64 L, .int .i64 a] 44)).cell? ⟨w.heap.size, 1, none⟩ = some (.int .i64 a) := cell_new _ _ _ _ rfl
  obtain ⟨M, hM⟩ : ∃ M, N + ls.length = M := ⟨_, rfl⟩
  rw [hM] at HV HR ⊢
  clear h hN hl hM hx
  go_enter Try.func73, Try.ntmps73
  go_wp2
  generalize (w.alloc (.cells #[.int .i64 L, .int .i64 a] 44)) = w1 at *
  (go_quiet (first | (go_at_call 83; exact Calls.quiet_of ((HV.out _).mono (by rintro e w2 ⟨rfl, nd, rfl⟩; exact ⟨rfl, nd, rfl⟩)))))
  go_wp2
  go_ret
  exact ⟨by have e1 := HR.out; first | (rw [hM] at e1; rw [e1]; rfl) | (rw [e1]; rfl) | (rw [HR.out]; rw [← HS.out]; rfl) | rfl, by repeat (first | exact HX.out | apply pw_below_drewN | apply below_drew1)⟩
theorem failure_no1 {w : World} {g N : Nat} {ls : List S40} {os : List Int} (L a : Int) (h : CircAt w g N ls os) (hN : N ≤ 6) (hl : ls.length ≤ 16) (hx : 0 ≤ L ∧ ((N + ls.length : Nat) : Int) ≤ L) :
    Calls Try.prog 73 #[.pointer (some ⟨g, 0, none⟩), .agg #[.int .i64 L, .int .i64 a]] w fun e w' => e = .returned (.int .i64 (failN (N + ls.length) L a)) ∧ Below w.heap.size w w' := by
  have HB := Aside0.mk (Below.refl w.heap.size w)
  have HX := Aside0.mk (show Below w.heap.size w (w.alloc (.cells #[.int .i64 L, .int .i64 a] 44)) from below_alloc HB.out _)
  have HV := Aside0.mk (fun n => lines_calls ((h.keep HX.out).drewN n) hN hl)
  have d1 : decide (L < 0) = false := decide_eq_false (by omega)
  have d2 : decide (((N + ls.length : Nat) : Int) ≤ L) = true := decide_eq_true (by omega)
  have HS : Aside0 ((-1 : Int) = -1) := ⟨rfl⟩
  have HR := Aside0.mk (show failN (N + ls.length) L a = -1 by unfold failN; rw [if_neg (by omega)])
  have hc0 : (w.alloc (.cells #[.int .i64 L, .int .i64 a] 44)).cell? ⟨w.heap.size, 0, none⟩ = some (.int .i64 L) := cell_new _ _ _ _ rfl
  have hc1 : (w.alloc (.cells #[.int .i64 L, .int .i64 a] 44)).cell? ⟨w.heap.size, 1, none⟩ = some (.int .i64 a) := cell_new _ _ _ _ rfl
  obtain ⟨M, hM⟩ : ∃ M, N + ls.length = M := ⟨_, rfl⟩
  rw [hM] at HV HR d2 ⊢
  clear h hN hl hM hx
  go_enter Try.func73, Try.ntmps73
  go_wp2
  generalize (w.alloc (.cells #[.int .i64 L, .int .i64 a] 44)) = w1 at *
  (go_quiet (first | (go_at_call 83; exact Calls.quiet_of ((HV.out _).mono (by rintro e w2 ⟨rfl, nd, rfl⟩; exact ⟨rfl, nd, rfl⟩)))))
  go_wp2
  go_ret
  exact ⟨by have e1 := HR.out; first | (rw [hM] at e1; rw [e1]; rfl) | (rw [e1]; rfl) | (rw [HR.out]; rw [← HS.out]; rfl) | rfl, by repeat (first | exact HX.out | apply pw_below_drewN | apply below_drew1)⟩
theorem failure_no2 {w : World} {g N : Nat} {ls : List S40} {os : List Int} (L a : Int) (h : CircAt w g N ls os) (hN : N ≤ 6) (hl : ls.length ≤ 16) (hx : 0 ≤ L ∧ L < ((N + ls.length : Nat) : Int) ∧ a < 0) :
    Calls Try.prog 73 #[.pointer (some ⟨g, 0, none⟩), .agg #[.int .i64 L, .int .i64 a]] w fun e w' => e = .returned (.int .i64 (failN (N + ls.length) L a)) ∧ Below w.heap.size w w' := by
  have HB := Aside0.mk (Below.refl w.heap.size w)
  have HX := Aside0.mk (show Below w.heap.size w (w.alloc (.cells #[.int .i64 L, .int .i64 a] 44)) from below_alloc HB.out _)
  have HV := Aside0.mk (fun n => lines_calls ((h.keep HX.out).drewN n) hN hl)
  have d1 : decide (L < 0) = false := decide_eq_false (by omega)
  have d2 : decide (((N + ls.length : Nat) : Int) ≤ L) = false := decide_eq_false (by omega)
  have d3 : decide (a < 0) = true := decide_eq_true (by omega)
  have HS : Aside0 ((-1 : Int) = -1) := ⟨rfl⟩
  have HR := Aside0.mk (show failN (N + ls.length) L a = -1 by unfold failN; rw [if_neg (by omega)])
  have hc0 : (w.alloc (.cells #[.int .i64 L, .int .i64 a] 44)).cell? ⟨w.heap.size, 0, none⟩ = some (.int .i64 L) := cell_new _ _ _ _ rfl
  have hc1 : (w.alloc (.cells #[.int .i64 L, .int .i64 a] 44)).cell? ⟨w.heap.size, 1, none⟩ = some (.int .i64 a) := cell_new _ _ _ _ rfl
  obtain ⟨M, hM⟩ : ∃ M, N + ls.length = M := ⟨_, rfl⟩
  rw [hM] at HV HR d2 ⊢
  clear h hN hl hM hx
  go_enter Try.func73, Try.ntmps73
  go_wp2
  generalize (w.alloc (.cells #[.int .i64 L, .int .i64 a] 44)) = w1 at *
  (go_quiet (first | (go_at_call 83; exact Calls.quiet_of ((HV.out _).mono (by rintro e w2 ⟨rfl, nd, rfl⟩; exact ⟨rfl, nd, rfl⟩)))))
  go_wp2
  go_ret
  exact ⟨by have e1 := HR.out; first | (rw [hM] at e1; rw [e1]; rfl) | (rw [e1]; rfl) | (rw [HR.out]; rw [← HS.out]; rfl) | rfl, by repeat (first | exact HX.out | apply pw_below_drewN | apply below_drew1)⟩
theorem failure_no3 {w : World} {g N : Nat} {ls : List S40} {os : List Int} (L a : Int) (h : CircAt w g N ls os) (hN : N ≤ 6) (hl : ls.length ≤ 16) (hx : 0 ≤ L ∧ L < ((N + ls.length : Nat) : Int) ∧ 1 < a) :
    Calls Try.prog 73 #[.pointer (some ⟨g, 0, none⟩), .agg #[.int .i64 L, .int .i64 a]] w fun e w' => e = .returned (.int .i64 (failN (N + ls.length) L a)) ∧ Below w.heap.size w w' := by
  have HB := Aside0.mk (Below.refl w.heap.size w)
  have HX := Aside0.mk (show Below w.heap.size w (w.alloc (.cells #[.int .i64 L, .int .i64 a] 44)) from below_alloc HB.out _)
  have HV := Aside0.mk (fun n => lines_calls ((h.keep HX.out).drewN n) hN hl)
  have d1 : decide (L < 0) = false := decide_eq_false (by omega)
  have d2 : decide (((N + ls.length : Nat) : Int) ≤ L) = false := decide_eq_false (by omega)
  have d3 : decide (a < 0) = false := decide_eq_false (by omega)
  have d4 : decide (1 < a) = true := decide_eq_true (by omega)
  have HS : Aside0 ((-1 : Int) = -1) := ⟨rfl⟩
  have HR := Aside0.mk (show failN (N + ls.length) L a = -1 by unfold failN; rw [if_neg (by omega)])
  have hc0 : (w.alloc (.cells #[.int .i64 L, .int .i64 a] 44)).cell? ⟨w.heap.size, 0, none⟩ = some (.int .i64 L) := cell_new _ _ _ _ rfl
  have hc1 : (w.alloc (.cells #[.int .i64 L, .int .i64 a] 44)).cell? ⟨w.heap.size, 1, none⟩ = some (.int .i64 a) := cell_new _ _ _ _ rfl
  obtain ⟨M, hM⟩ : ∃ M, N + ls.length = M := ⟨_, rfl⟩
  rw [hM] at HV HR d2 ⊢
  clear h hN hl hM hx
  go_enter Try.func73, Try.ntmps73
  go_wp2
  generalize (w.alloc (.cells #[.int .i64 L, .int .i64 a] 44)) = w1 at *
  (go_quiet (first | (go_at_call 83; exact Calls.quiet_of ((HV.out _).mono (by rintro e w2 ⟨rfl, nd, rfl⟩; exact ⟨rfl, nd, rfl⟩)))))
  go_wp2
  go_ret
  exact ⟨by have e1 := HR.out; first | (rw [hM] at e1; rw [e1]; rfl) | (rw [e1]; rfl) | (rw [HR.out]; rw [← HS.out]; rfl) | rfl, by repeat (first | exact HX.out | apply pw_below_drewN | apply below_drew1)⟩
theorem failure_calls {w : World} {g N : Nat} {ls : List S40} {os : List Int} (L a : Int) (h : CircAt w g N ls os) (hN : N ≤ 6) (hl : ls.length ≤ 16) :
    Calls Try.prog 73 #[.pointer (some ⟨g, 0, none⟩), .agg #[.int .i64 L, .int .i64 a]] w fun e w' => e = .returned (.int .i64 (failN (N + ls.length) L a)) ∧ Below w.heap.size w w' := by
  by_cases h1 : L < 0
  · exact failure_no0 L a h hN hl h1
  by_cases h2 : L < ((N + ls.length : Nat) : Int)
  · by_cases h3 : a < 0
    · exact failure_no2 L a h hN hl ⟨by omega, h2, h3⟩
    by_cases h4 : a ≤ 1
    · exact failure_ok L a h hN hl ⟨by omega, h2, by omega, h4⟩
    · exact failure_no3 L a h hN hl ⟨by omega, h2, by omega⟩
  · exact failure_no1 L a h hN hl ⟨by omega, by omega⟩
end Go.Proofs.Ytelfalicickelaa.P
set_option linter.unusedSimpArgs false
set_option linter.unusedVariables false
namespace Go.Proofs.Ytelfalicickelaa.P
open Go.Lib Go.RowKit Go.Proofs.YtelfalicickelaaW.PrintWords Go.Proofs.YtelfalicickelaaW.PrintLast Go.Proofs.YtelfalicickelaaW.PrintMore Go.Proofs.Ytelfalicickelaa.Kit
theorem ints_in {k : IntKind} {w : World} {A : Option Addr} {xs : List Int} (hr : Kd.C (Kd.int k) w A xs.length xs) (h0 : 0 < xs.length) :
    ∃ b off, A = some ⟨b, off, none⟩ ∧ ∀ j, j < xs.length → w.cell? ⟨b, off + j, none⟩ = some (.int k xs[j]!) := by
  obtain ⟨ad, e0, hx0⟩ := Kd.at_int hr 0 (by omega) (by omega)
  have hs : ad.spot = none := by
    have hadd : ad.add (Int.toNat 0) = ad := by simp [Addr.add]
    rw [hadd] at hx0
    unfold World.cell? at hx0
    split at hx0
    · split at hx0
      · cases hx0
      · rename_i h; simpa using h
    · cases hx0
  have hadd : ∀ j, ad.add j = ⟨ad.block, ad.off + j, none⟩ := fun j => by
    obtain ⟨bb, oo, ss⟩ := ad
    dsimp only at hs
    subst hs
    unfold Addr.add
    by_cases e : j = 0
    · rw [if_pos e, e]; rfl
    · rw [if_neg e]
  refine ⟨ad.block, ad.off, by rw [e0]; cases ad; simp_all, fun j hj => ?_⟩
  obtain ⟨ad', e', hx⟩ := Kd.at_int hr (j : Int) (by omega) (by omega)
  rw [e0] at e'
  injection e' with e'
  subst e'
  rw [Int.toNat_natCast, hadd] at hx
  rw [hx, rd_get xs j hj, getElem!_pos xs j hj]
def badL (M : Nat) (l : Int) : Bool := decide (l < 0) || decide ((M : Int) ≤ l)
set_option maxHeartbeats 4000000
set_option maxRecDepth 100000
theorem of1_pred (N i Bc Bi : Nat) (hN : N ≤ 6) (hi : i ≤ 16) {w : World} {o1 o2 : Value} (h1 : ∃ f, w.heap[Bc]? = some (.cells #[.int .i64 (N : Int), o1, o2] 25 f)) (h2 : ∃ f, w.heap[Bi]? = some (.cells #[.int .i64 (i : Int)] 3 f)) :
    PredAt Try.prog 87 #[.pointer (some ⟨Bc, 0, none⟩), .pointer (some ⟨Bi, 0, none⟩)] (fun x : Int => Value.int .i64 x) (badL (N + i)) w := by
  intro W x hW
  obtain ⟨f1, h1⟩ := h1
  obtain ⟨f2, h2⟩ := h2
  have hc0 := blkc ((hW.block Bc (Array.getElem?_eq_some_iff.1 h1).1).trans h1) 0 rfl
  have hc1 := blkc ((hW.block Bi (Array.getElem?_eq_some_iff.1 h2).1).trans h2) 0 rfl
  clear h1 h2 hW
  have hw : wrap64 ((N : Int) + (i : Int)) = ((N + i : Nat) : Int) := by rw [w64 (by omega) (by omega)]; omega
  show Calls _ _ #[.int .i64 x, .pointer (some ⟨Bc, 0, none⟩), .pointer (some ⟨Bi, 0, none⟩)] W _
  unfold badL
  by_cases ha : x < 0
  · have d1 : decide (x < 0) = true := decide_eq_true ha
    clear ha hw
    go_enter Try.func87, Try.ntmps87
    go_wp2
    go_ret
    exact ⟨by rw [d1]; rfl, 0, rfl⟩
  · have d1 : decide (x < 0) = false := decide_eq_false ha
    rw [d1, Bool.false_or]
    obtain ⟨b, hb⟩ : ∃ b, decide (((N + i : Nat) : Int) ≤ x) = b := ⟨_, rfl⟩
    rw [hb]
    rw [← hw] at hb
    clear ha hw hN hi
    go_enter Try.func87, Try.ntmps87
    go_wp2
    go_ret
    exact ⟨by rw [← hb]; rfl, 0, rfl⟩
theorem any_reads (N i Bc Bi : Nat) (hN : N ≤ 6) (hi : i ≤ 16) {w : World} {o1 o2 : Value} (h1 : ∃ f, w.heap[Bc]? = some (.cells #[.int .i64 (N : Int), o1, o2] 25 f)) (h2 : ∃ f, w.heap[Bi]? = some (.cells #[.int .i64 (i : Int)] 3 f))
    (A : Option Addr) (c : Nat) (xs : List Int) (hr : Kd.C (Kd.int .i64) w A xs.length xs) (b : Bool) (hb : xs.any (badL (N + i)) = b) :
    Calls Try.prog 86 #[.slice A xs.length c, .func (.func 87) #[] #[.pointer (some ⟨Bc, 0, none⟩), .pointer (some ⟨Bi, 0, none⟩)]] w fun e w' => e = .returned (.bool b) ∧ Drawn0 w w' := by
  by_cases h0 : xs.length = 0
  · have hl : xs = [] := List.length_eq_zero_iff.1 h0
    subst hl
    refine (Try.slices_ContainsFunc_empty (α := Int) A c _ w).mono ?_
    rintro e w' ⟨rfl, rfl⟩
    exact ⟨by rw [← hb]; rfl, Drawn0.refl _⟩
  · obtain ⟨b', off, rfl, h3⟩ := ints_in hr (by omega)
    refine (Try.slices_ContainsFunc (fun x : Int => Value.int .i64 x) (badL (N + i)) 87 _ (fun _ _ => rfl) b' off xs.length c xs w (of1_pred N i Bc Bi hN hi h1 h2) (Nat.le_refl _) (by have := hr.2.1; omega) h3).mono ?_
    rintro e w' ⟨rfl, nd, rfl⟩
    refine ⟨?_, nd, rfl⟩
    rw [← hb, List.take_of_length_le (Nat.le_refl _)]
theorem of2_pred (g N Bx : Nat) (ls : List S40) (os : List Int) (hN : N ≤ 6) (hl : ls.length ≤ 16) {w : World} (h : CircAt w g N ls os) (h2 : ∃ f, w.heap[Bx]? = some (.cells #[.pointer (some ⟨g, 0, none⟩)] 67 f)) :
    PredAt Try.prog 88 #[.pointer (some ⟨Bx, 0, none⟩)] (fun x : Int => Value.int .i64 x) (badL (N + ls.length)) w := by
  intro W x hW
  obtain ⟨f2, h2⟩ := h2
  have hc1 := blkc ((hW.block Bx (Array.getElem?_eq_some_iff.1 h2).1).trans h2) 0 rfl
  have HC := Aside0.mk (fun n => lines_calls ((h.keep hW).drewN n) hN hl)
  clear h h2 hW hN hl
  show Calls _ _ #[.int .i64 x, .pointer (some ⟨Bx, 0, none⟩)] W _
  unfold badL
  by_cases ha : x < 0
  · have d1 : decide (x < 0) = true := decide_eq_true ha
    clear ha
    go_enter Try.func88, Try.ntmps88
    go_wp2
    go_ret
    exact ⟨by rw [d1]; rfl, 0, rfl⟩
  · have d1 : decide (x < 0) = false := decide_eq_false ha
    rw [d1, Bool.false_or]
    obtain ⟨M, hM⟩ : ∃ M, N + ls.length = M := ⟨_, rfl⟩
    rw [hM] at HC ⊢
    obtain ⟨b, hb⟩ : ∃ b, decide ((M : Int) ≤ x) = b := ⟨_, rfl⟩
    rw [hb]
    clear ha
    go_enter Try.func88, Try.ntmps88
    go_wp2_with (go_at_call 83; (refine (HC.out 0).mono ?_); rintro e w' ⟨rfl, ⟨nd, rfl⟩⟩)
    go_ret
    exact ⟨by rw [← hb]; rfl, _, rfl⟩
theorem any_outs (g N Bx : Nat) (ls : List S40) (os : List Int) (hN : N ≤ 6) (hl : ls.length ≤ 16) {w : World} (h : CircAt w g N ls os) (h2 : ∃ f, w.heap[Bx]? = some (.cells #[.pointer (some ⟨g, 0, none⟩)] 67 f))
    (A : Option Addr) (c : Nat) (xs : List Int) (hr : Kd.C (Kd.int .i64) w A xs.length xs) (b : Bool) (hb : xs.any (badL (N + ls.length)) = b) :
    Calls Try.prog 86 #[.slice A xs.length c, .func (.func 88) #[] #[.pointer (some ⟨Bx, 0, none⟩)]] w fun e w' => e = .returned (.bool b) ∧ Drawn0 w w' := by
  by_cases h0 : xs.length = 0
  · have hl : xs = [] := List.length_eq_zero_iff.1 h0
    subst hl
    refine (Try.slices_ContainsFunc_empty (α := Int) A c _ w).mono ?_
    rintro e w' ⟨rfl, rfl⟩
    exact ⟨by rw [← hb]; rfl, Drawn0.refl _⟩
  · obtain ⟨b', off, rfl, h3⟩ := ints_in hr (by omega)
    refine (Try.slices_ContainsFunc (fun x : Int => Value.int .i64 x) (badL (N + ls.length)) 88 _ (fun _ _ => rfl) b' off xs.length c xs w (of2_pred g N Bx ls os hN hl h h2) (Nat.le_refl _) (by have := hr.2.1; omega) h3).mono ?_
    rintro e w' ⟨rfl, nd, rfl⟩
    refine ⟨?_, nd, rfl⟩
    rw [← hb, List.take_of_length_le (Nat.le_refl _)]
end Go.Proofs.Ytelfalicickelaa.P
set_option linter.unusedSimpArgs false
set_option linter.unusedVariables false
namespace Go.Proofs.Ytelfalicickelaa.P
open Go.Lib Go.RowKit Go.Proofs.YtelfalicickelaaW.PrintWords Go.Proofs.YtelfalicickelaaW.PrintLast Go.Proofs.YtelfalicickelaaW.PrintMore Go.Proofs.Ytelfalicickelaa.Kit
def gateOk (N i : Nat) (s : S40) : Bool := decide (0 ≤ s.f0 ∧ s.f0 ≤ 5) && (!(decide (s.f0 = 5) && decide (s.f2 ≠ 0)) && !(readsL s.f0 s.f1 s.f2).any (badL (N + i)))
def gatesOk (N : Nat) (ls : List S40) : Bool := (List.range ls.length).all fun i => gateOk N i (ls.getD i z40)
def okC (n : Int) (ls : List S40) (os : List Int) : Bool :=
  decide (1 ≤ n ∧ n ≤ 6 ∧ ls.length ≤ 16 ∧ 1 ≤ os.length ∧ os.length ≤ 4) && (gatesOk n.toNat ls && !os.any (badL (n.toNat + ls.length)))
structure OfAt (w : World) (N : Nat) (ls : List S40) (os : List Int) (A1 : Option Addr) (c1 : Nat) (A2 : Option Addr) (c2 : Nat) (i : Nat) (W : World) : Prop where
  c : W.heap[w.heap.size]? = some (.cells #[.int .i64 (N : Int), .slice A1 ls.length c1, .slice A2 os.length c2] 25 (0, 0))
  u : ∃ Au cu, W.heap[w.heap.size + 1]? = some (.cells #[.int .i64 (N : Int), .slice A1 ls.length c1, .slice A2 os.length c2, .slice Au i cu] 100 (0, 0)) ∧ W.ownsRow (w.heap.size + 3) 105 1 (.slice Au i cu) i ((ls.take i).map unitOf)
  x : W.heap[w.heap.size + 1 + 1]? = some (.cells #[.pointer (some ⟨w.heap.size + 1, 0, none⟩)] 67 (0, 0))
  b : Below w.heap.size w W
theorem OfAt.size {w W : World} {N : Nat} {ls : List S40} {os : List Int} {A1 : Option Addr} {c1 : Nat} {A2 : Option Addr} {c2 i : Nat} (h : OfAt w N ls os A1 c1 A2 c2 i W) : w.heap.size + 3 ≤ W.heap.size := (Array.getElem?_eq_some_iff.1 h.x).1
theorem OfAt.keep {w W W' : World} {N : Nat} {ls : List S40} {os : List Int} {A1 : Option Addr} {c1 : Nat} {A2 : Option Addr} {c2 i : Nat} (h : OfAt w N ls os A1 c1 A2 c2 i W) (hb : Below W.heap.size W W') : OfAt w N ls os A1 c1 A2 c2 i W' := by
  have hs := h.size
  obtain ⟨Au, cu, h1, h2, h3⟩ := h.u
  refine ⟨(hb.block _ (by omega)).trans h.c, ⟨Au, cu, (hb.block _ (by omega)).trans h1, h2, ?_⟩, (hb.block _ (by omega)).trans h.x, h.b.trans (hb.mono (by omega))⟩
  rcases h3 with h3 | ⟨g, cap, cur, e1, e2, e3, e4⟩
  · exact .inl h3
  · exact .inr ⟨g, cap, cur, e1, e2, (hb.block g (Array.getElem?_eq_some_iff.1 e3).1).trans e3, e4⟩
theorem OfAt.start (w : World) (N : Nat) (ls : List S40) (os : List Int) (A1 : Option Addr) (c1 : Nat) (A2 : Option Addr) (c2 : Nat) :
    OfAt w N ls os A1 c1 A2 c2 0 (((w.alloc (.cells #[.int .i64 (N : Int), .slice A1 ls.length c1, .slice A2 os.length c2] 25)).alloc (.cells #[.int .i64 (N : Int), .slice A1 ls.length c1, .slice A2 os.length c2, .slice none 0 0] 100)).alloc (.cells #[.pointer (some ⟨w.heap.size + 1, 0, none⟩)] 67)) := by
  obtain ⟨w1, h1⟩ : ∃ w1, w.alloc (.cells #[.int .i64 (N : Int), .slice A1 ls.length c1, .slice A2 os.length c2] 25) = w1 := ⟨_, rfl⟩
  have a1 := heap_alloc_new w (.cells #[.int .i64 (N : Int), .slice A1 ls.length c1, .slice A2 os.length c2] 25)
  have b1 : Below w.heap.size w w1 := by rw [← h1]; exact below_alloc (Below.refl _ _) _
  have s1 : w1.heap.size = w.heap.size + 1 := by rw [← h1]; simp only [World.size_alloc]
  rw [h1] at a1 ⊢
  obtain ⟨w2, h2⟩ : ∃ w2, w1.alloc (.cells #[.int .i64 (N : Int), .slice A1 ls.length c1, .slice A2 os.length c2, .slice none 0 0] 100) = w2 := ⟨_, rfl⟩
  have a2 := heap_alloc_new w1 (.cells #[.int .i64 (N : Int), .slice A1 ls.length c1, .slice A2 os.length c2, .slice none 0 0] 100)
  have b2 : Below w1.heap.size w1 w2 := by rw [← h2]; exact below_alloc (Below.refl _ _) _
  have s2 : w2.heap.size = w1.heap.size + 1 := by rw [← h2]; simp only [World.size_alloc]
  rw [h2] at a2 ⊢
  have a3 := heap_alloc_new w2 (.cells #[.pointer (some ⟨w.heap.size + 1, 0, none⟩)] 67)
  have b3 : Below w2.heap.size w2 (w2.alloc (.cells #[.pointer (some ⟨w.heap.size + 1, 0, none⟩)] 67)) := below_alloc (Below.refl _ _) _
  rw [s1] at a2
  rw [s2, s1] at a3
  exact ⟨(b3.block _ (by omega)).trans ((b2.block _ (by omega)).trans a1), ⟨none, 0, (b3.block _ (by omega)).trans a2, rfl, .inl ⟨rfl, rfl⟩⟩, a3, b1.trans ((b2.trans (b3.mono (by omega))).mono (by omega))⟩
theorem OfAt.push {w W W9 : World} {N : Nat} {ls : List S40} {os : List Int} {A1 : Option Addr} {c1 : Nat} {A2 : Option Addr} {c2 i : Nat} (h : OfAt w N ls os A1 c1 A2 c2 i W) {A' : Option Addr} {c' : Nat} (hb : Below (w.heap.size + 3) W W9)
    (hr : W9.ownsRow (w.heap.size + 3) 105 1 (.slice A' (i + 1) c') (i + 1) ((ls.take (i + 1)).map unitOf)) :
    OfAt w N ls os A1 c1 A2 c2 (i + 1) (W9.setCell ⟨w.heap.size + 1, 3, none⟩ (.slice A' (i + 1) c')) := by
  obtain ⟨Au, cu, h1, _⟩ := h.u
  have a1 := (hb.block (w.heap.size + 1) (by omega)).trans h1
  have hset : ∀ B, B ≠ w.heap.size + 1 → (W9.setCell ⟨w.heap.size + 1, 3, none⟩ (.slice A' (i + 1) c')).heap[B]? = W9.heap[B]? := fun B hB => by
    simp only [World.setCell, Array.getElem?_modify]
    rw [if_neg (fun e => hB e.symm)]
  refine ⟨(hset _ (by omega)).trans ((hb.block _ (by omega)).trans h.c), ⟨A', c', ?_, hr.1, ?_⟩, (hset _ (by omega)).trans ((hb.block _ (by omega)).trans h.x), (h.b.trans (hb.mono (by omega))).setCell (by show w.heap.size ≤ w.heap.size + 1; omega) _⟩
  · simp only [World.setCell, Array.getElem?_modify, if_true, a1, Option.map_some]
    rfl
  · rcases hr.2 with h3 | ⟨g, cap, cur, e1, e2, e3, e4⟩
    · exact .inl h3
    · exact .inr ⟨g, cap, cur, e1, e2, (hset g (by omega)).trans e3, e4⟩
theorem OfAt.cells {w W : World} {N : Nat} {ls : List S40} {os : List Int} {A1 : Option Addr} {c1 : Nat} {A2 : Option Addr} {c2 i : Nat} (h : OfAt w N ls os A1 c1 A2 c2 i W) :
    ∃ Au cu, W.cell? ⟨w.heap.size + 1 + 1, 0, none⟩ = some (.pointer (some ⟨w.heap.size + 1, 0, none⟩)) ∧ W.cell? ⟨w.heap.size + 1, 3, none⟩ = some (.slice Au i cu) ∧ W.frozen? ⟨w.heap.size + 1, 3, none⟩ = false ∧ W.ownsRow (w.heap.size + 3) 105 1 (.slice Au i cu) i ((ls.take i).map unitOf) := by
  obtain ⟨Au, cu, h1, h2⟩ := h.u
  refine ⟨Au, cu, blkc h.x 0 rfl, blkc h1 3 rfl, ?_, h2⟩
  unfold World.frozen?
  rw [h1]
  rfl
theorem OfAt.circ {w W : World} {N : Nat} {ls : List S40} {os : List Int} {A1 : Option Addr} {c1 : Nat} {A2 : Option Addr} {c2 : Nat} (h : OfAt w N ls os A1 c1 A2 c2 ls.length W) (hr1 : Kd.C k40 w A1 ls.length ls) (hc1 : ls.length ≤ c1) (hr2 : Kd.C (Kd.int .i64) w A2 os.length os) (hc2 : os.length ≤ c2) : CircAt W (w.heap.size + 1) N ls os := by
  obtain ⟨Au, cu, h1, h2⟩ := h.u
  refine ⟨A1, c1, A2, c2, Au, cu, h1, Kd.C_below hr1 h.b, hc1, Kd.C_below hr2 h.b, hc2, fun j hj => ?_⟩
  rw [List.take_of_length_le (Nat.le_refl _)] at h2
  rcases h2.2 with ⟨e1, e2⟩ | ⟨g, cap, cur, e1, e2, e3, e4, e5, e6⟩
  · exact absurd e2 (by omega)
  · injection e1 with e1 _ _
    subst e1
    refine ⟨_, rfl, ?_⟩
    have hc : cur[j]? = some (unitOf ls[j]) := by
      have h5 : cur.toList[j]? = (ls.map unitOf)[j]? := by
        have := e6.2
        rw [Nat.mul_one] at this
        rw [← this, List.getElem?_take, if_pos hj]
      rw [Array.getElem?_toList] at h5
      rw [h5]
      simp [hj]
    have hadd : (⟨g, 0, none⟩ : Addr).add j = ⟨g, j, none⟩ := by
      unfold Addr.add
      by_cases e : j = 0
      · rw [if_pos e, e]
      · rw [if_neg e]; simp
    rw [hadd]
    exact blkc e3 j hc
theorem own_below {w W' : World} {base e n : Nat} {v : Value} {xs : List Value} (h : w.ownsRow base e 1 v n xs) (hb : Below w.heap.size w W') : W'.ownsRow base e 1 v n xs := by
  refine ⟨h.1, ?_⟩
  rcases h.2 with h3 | ⟨g, cap, cur, e1, e2, e3, e4⟩
  · exact .inl h3
  · exact .inr ⟨g, cap, cur, e1, e2, (hb.block g (Array.getElem?_eq_some_iff.1 e3).1).trans e3, e4⟩
theorem frozen_at {B : Nat} {w w' : World} (h : Below B w w') {p : Addr} (hp : p.block < B) : w'.frozen? p = w.frozen? p := by
  unfold World.frozen?
  rw [h.block p.block hp]
theorem own_block {w : World} {base e n : Nat} {v : Value} {xs : List Value} (h : w.ownsRow base e 1 v n xs) : ∀ k, v.ownBlock = some k → base ≤ k := by
  intro k hk
  rcases h.2 with ⟨rfl, _⟩ | ⟨g, cap, cur, rfl, e2, e3, e4⟩
  · cases hk
  · have hk2 : some g = some k := hk
    injection hk2 with hk2
    subst hk2
    exact e2
theorem one_iface (T : TypeId) (x : Value) : ∀ u ∈ [Value.iface T x], u.oneCell' = true := by
  intro u hu
  have hu2 := List.mem_singleton.1 hu
  subst hu2
  rfl
theorem gate_op {P : Program} {ops : Array Oper} {o : Oper} {a : Act} {w : World} {K : Act → World → Prop} {Q : Exit → Act → World → Prop} {E : Prop} (x : Op) (_h : o.op = x)
    (k : if Region.wanted o (yielded ops a.tmps) = true then Oper.wp P o a w K Q else E) : if Region.wanted o (yielded ops a.tmps) = true then Oper.wp P o a w K Q else E := k
theorem news_one {W : World} {ad : Addr} {v : Value} (h : W.cell? ad = some v) : ∀ j u, [v][j]? = some u → W.cell? (ad.add j) = some u := by
  intro j u hu
  cases j with
  | zero =>
    have e : v = u := by simpa using hu
    rw [← e, ← h]
    simp [Addr.add]
  | succ j => simp at hu
theorem info_unit : (Try.prog.info? 105).map (fun i => (i.zero, i.size, i.bytes)) = some (some .nilIface, 1, 16) := by kernel_rfl
theorem unit_ne (k a b : Int) (hk : 0 ≤ k ∧ k ≤ 5) (w : World) : (binOp .eql 105 (unitV k a b) .nilIface).run Try.prog w = .ok (.bool false) w := by
  rcases kinds hk.1 hk.2 with rfl | rfl | rfl | rfl | rfl | rfl <;> kernel_rfl
theorem unit_guard (k a b : Int) (hk : 0 ≤ k ∧ k ≤ 5) (w : World) : (eqGuard .eql 105 (.tmp 46) (.const .nilIface) (unitV k a b) .nilIface).run Try.prog w = .ok () w := by
  rcases kinds hk.1 hk.2 with rfl | rfl | rfl | rfl | rfl | rfl <;> kernel_rfl
theorem unit_iface (k a b : Int) (hk : 0 ≤ k ∧ k ≤ 5) : ∃ T x, unitV k a b = .iface T x := by
  rcases kinds hk.1 hk.2 with rfl | rfl | rfl | rfl | rfl | rfl <;> exact ⟨_, _, rfl⟩
theorem gatesOk_at {N : Nat} {ls : List S40} {i : Nat} (h : gatesOk N ls = true) (hi : i < ls.length) : gateOk N i ls[i] = true := by
  unfold gatesOk at h
  have := List.all_eq_true.1 h i (List.mem_range.2 hi)
  simpa [List.getD_eq_getElem?_getD, hi] using this
theorem gatesOk_of {N : Nat} {ls : List S40} (h : (List.range ls.length).all (fun i => gateOk N i (ls.getD i z40)) = true) : gatesOk N ls = true := h
theorem all_step {N : Nat} {ls : List S40} {i : Nat} (h : (List.range i).all (fun i => gateOk N i (ls.getD i z40)) = true) (hi : i < ls.length) (hg : gateOk N i ls[i] = true) : (List.range (i + 1)).all (fun i => gateOk N i (ls.getD i z40)) = true := by
  rw [List.range_succ, List.all_append, h]
  simpa [List.getD_eq_getElem?_getD, hi] using hg
theorem okC_gate {N : Nat} {ls : List S40} {os : List Int} {i : Nat} (hi : i < ls.length) (hg : gateOk N i ls[i] = false) : okC (N : Int) ls os = false := by
  cases h : okC (N : Int) ls os with
  | false => rfl
  | true =>
    unfold okC at h
    rw [Bool.and_eq_true, Bool.and_eq_true, Int.toNat_natCast] at h
    rw [gatesOk_at h.2.1 hi] at hg
    cases hg
def boxes (W : World) (i : Nat) (k a b : Int) : World := (W.alloc (.cells #[.int .i64 (i : Int)] 3)).alloc (.cells #[.int .i64 k, .int .i64 a, .int .i64 b] 40)
theorem boxes_size (W : World) (i : Nat) (k a b : Int) : (boxes W i k a b).heap.size = W.heap.size + 1 + 1 := by unfold boxes; simp only [World.size_alloc]
theorem boxes_below (W : World) (i : Nat) (k a b : Int) : Below W.heap.size W (boxes W i k a b) := below_alloc (below_alloc (Below.refl _ _) _) _
theorem boxes_i (W : World) (i : Nat) (k a b : Int) : (boxes W i k a b).heap[W.heap.size]? = some (.cells #[.int .i64 (i : Int)] 3 (0, 0)) := by
  unfold boxes
  have h1 := heap_alloc_new W (.cells #[.int .i64 (i : Int)] 3)
  exact ((below_alloc (Below.refl (W.alloc (.cells #[.int .i64 (i : Int)] 3)).heap.size _) _).block _ (Array.getElem?_eq_some_iff.1 h1).1).trans h1
theorem boxes_g (W : World) (i : Nat) (k a b : Int) : (boxes W i k a b).heap[W.heap.size + 1]? = some (.cells #[.int .i64 k, .int .i64 a, .int .i64 b] 40 (0, 0)) := by
  unfold boxes
  have h1 := heap_alloc_new (W.alloc (.cells #[.int .i64 (i : Int)] 3)) (.cells #[.int .i64 k, .int .i64 a, .int .i64 b] 40)
  rwa [World.size_alloc] at h1
theorem boxes_after {W W' : World} (i : Nat) (k a b : Int) (hb : Below (boxes W i k a b).heap.size (boxes W i k a b) W') :
    W'.heap[W.heap.size]? = some (.cells #[.int .i64 (i : Int)] 3 (0, 0)) ∧ W'.cell? ⟨W.heap.size + 1, 0, none⟩ = some (.int .i64 k) ∧ W'.cell? ⟨W.heap.size + 1, 2, none⟩ = some (.int .i64 b) ∧ Below W.heap.size W W' := by
  have hs := boxes_size W i k a b
  exact ⟨(hb.block _ (by omega)).trans (boxes_i W i k a b), blkc ((hb.block _ (by omega)).trans (boxes_g W i k a b)) 0 rfl, blkc ((hb.block _ (by omega)).trans (boxes_g W i k a b)) 2 rfl, (boxes_below W i k a b).trans (hb.mono (by omega))⟩
set_option maxHeartbeats 8000000
set_option maxRecDepth 100000
theorem of_main (N : Nat) (ls : List S40) (os : List Int) (A1 : Option Addr) (c1 : Nat) (A2 : Option Addr) (c2 : Nat) (w : World) (h0 : 1 ≤ N ∧ N ≤ 6 ∧ ls.length ≤ 16 ∧ 1 ≤ os.length ∧ os.length ≤ 4) (hr1 : Kd.C k40 w A1 ls.length ls) (hc1 : ls.length ≤ c1) (hr2 : Kd.C (Kd.int .i64) w A2 os.length os) (hc2 : os.length ≤ c2) :
    Calls Try.prog 54 #[.agg #[.int .i64 (N : Int), .slice A1 ls.length c1, .slice A2 os.length c2]] w fun e w' => Below w.heap.size w w' ∧ ((okC (N : Int) ls os = true ∧ ∃ g, e = .returned (.pointer (some ⟨g, 0, none⟩)) ∧ CircAt w' g N ls os) ∨ (okC (N : Int) ls os = false ∧ e = .returned (.pointer none))) := by
  have HR1 := Aside0.mk hr1
  have HR2 := Aside0.mk hr2
  have HC := Aside0.mk (And.intro hc1 hc2)
  have HH := Aside0.mk h0
  have d1 : decide ((N : Int) < 1) = false := decide_eq_false (by omega)
  have d2 : decide ((6 : Int) < (N : Int)) = false := decide_eq_false (by omega)
  have d3 : decide ((16 : Int) < (ls.length : Int)) = false := decide_eq_false (by omega)
  have d4 : decide ((os.length : Int) < 1) = false := decide_eq_false (by omega)
  have d5 : decide ((4 : Int) < (os.length : Int)) = false := decide_eq_false (by omega)
  have d1' : decide (N < 1) = false := decide_eq_false (by omega)
  have d2' : decide (6 < N) = false := decide_eq_false (by omega)
  have d3' : decide (16 < ls.length) = false := decide_eq_false (by omega)
  have d4' : decide (os.length < 1) = false := decide_eq_false (by omega)
  have d5' : decide (4 < os.length) = false := decide_eq_false (by omega)
  have HS := Aside0.mk (OfAt.start w N ls os A1 c1 A2 c2)
  clear hr1 hr2 hc1 hc2 h0
  go_enter Try.func54, Try.ntmps54
  go_wp2
  go_loopw [39] (fun v39 w' => ∃ i : Nat, v39 = .int .i64 (i : Int) ∧ Aside0 (i ≤ ls.length) ∧ Aside0 ((List.range i).all (fun i => gateOk N i (ls.getD i z40)) = true) ∧ Aside0 (OfAt w N ls os A1 c1 A2 c2 i w')) (fun v _ => ls.length - (intOf v).toNat)
  case atStart => exact ⟨0, rfl, ⟨Nat.zero_le _⟩, ⟨rfl⟩, HS⟩
  case round =>
    clear HS d1 d2 d3 d4 d5 d1' d2' d3' d4' d5'
    obtain ⟨i, rfl, Hi, HG, HO⟩ := hrel
    by_cases ct : (i : Int) < (ls.length : Int)
    · have c1b : decide ((i : Int) < (ls.length : Int)) = true := decide_eq_true ct
      have c1c : decide (i < ls.length) = true := decide_eq_true (by omega)
      have hi : i < ls.length := by omega
      have Hct := Aside0.mk hi
      have p0 : (0 : Int) ≤ i := by omega
      have q1 := eq_true ct
      have q2 := eq_true hi
      have q3 := eq_true p0
      obtain ⟨ad, ead, hx0, hx1, hx2⟩ := at_T40 (Kd.C_below HR1.out HO.out.b) (i : Int) p0 ct
      subst ead
      rw [Int.toNat_natCast] at hx0 hx1 hx2
      have hrd : rd_T40 ls (i : Int) = ls[i] := by unfold rd_T40; simp [hi]
      rw [hrd] at hx0 hx1 hx2
      obtain ⟨s, hs⟩ : ∃ s, ls[i] = s := ⟨_, rfl⟩
      rw [hs] at hx0 hx1 hx2
      obtain ⟨k, a, b⟩ := s
      dsimp only at hx0 hx1 hx2
      have HSs := Aside0.mk hs
      clear hrd hs
      by_cases hk : 0 ≤ k ∧ k ≤ 5
      · have HM := Aside0.mk (fun W => made_some k a b hk W)
        have HRd := Aside0.mk (fun W => reads_calls k a b hk W)
        have une := unit_ne k a b hk
        have ung := unit_guard k a b hk
        obtain ⟨T, x, hTx⟩ := unit_iface k a b hk
        rw [hTx] at une ung
        simp only [hTx] at HM HRd
        have hgo : gateOk N i ls[i] = (!(decide (k = 5) && decide (b ≠ 0)) && !(readsL k a b).any (badL (N + i))) := by rw [HSs.out]; unfold gateOk; rw [decide_eq_true hk, Bool.true_and]
        by_cases h5 : k = 5 ∧ b ≠ 0
        · have e5 : (k == 5) = true := beq_iff_eq.2 h5.1
          have e6 : (b != 0) = true := bne_iff_ne.2 h5.2
          have HF := Aside0.mk (okC_gate (N := N) (os := os) hi (by rw [hgo, decide_eq_true h5.1, decide_eq_true h5.2]; rfl))
          clear HSs hgo h5 hk hi ct
          go_wp2_with (go_at_call 85; (refine (HM.out _).mono ?_); rintro e w3 ⟨rfl, hb⟩; obtain ⟨b1, b2, b3, b4⟩ := boxes_after i k a b hb; have HB1 := Aside0.mk b1; have HB4 := Aside0.mk b4; clear hb b1 b4)
          go_ret
          exact ⟨HO.out.b.trans (HB4.out.mono (by have := HO.out.size; omega)), .inr ⟨HF.out, rfl⟩⟩
        · have hcase : ((k == 5) = true ∧ (b != 0) = false) ∨ ((k == 5) = false) := by
            by_cases h : k = 5
            · refine .inl ⟨beq_iff_eq.2 h, ?_⟩
              have : b = 0 := Classical.byContradiction fun e => h5 ⟨h, e⟩
              rw [this]; rfl
            · exact .inr (beq_eq_false_iff_ne.2 h)
          have hgo2 : gateOk N i ls[i] = !(readsL k a b).any (badL (N + i)) := by
            rw [hgo]
            have : (decide (k = 5) && decide (b ≠ 0)) = false := by
              cases e : (decide (k = 5) && decide (b ≠ 0)) with
              | false => rfl
              | true => rw [Bool.and_eq_true, decide_eq_true_eq, decide_eq_true_eq] at e; exact absurd e h5
            rw [this]; rfl
          obtain ⟨q, hq⟩ : ∃ q, (readsL k a b).any (badL (N + i)) = q := ⟨_, rfl⟩
          rw [hq] at hgo2
          have HQ := Aside0.mk hq
          have HGo := Aside0.mk hgo2
          have HiN := Aside0.mk (show N ≤ 6 ∧ i ≤ 16 by have := HH.out; omega)
          have HLt := Aside0.mk hi
          clear hgo h5 hq hgo2 hk
          cases q with
          | true =>
            have HF := Aside0.mk (okC_gate (N := N) (os := os) hi (by rw [HGo.out]; rfl))
            clear HSs hi ct HGo
            rcases hcase with ⟨e5, e6⟩ | e5
            all_goals
              go_wp2_with (first | (go_at_call 85; (refine (HM.out _).mono ?_); rintro e w3 ⟨rfl, hb⟩; obtain ⟨b1, b2, b3, b4⟩ := boxes_after i k a b hb; have HB1 := Aside0.mk b1; have HB4 := Aside0.mk b4; clear hb b1 b4) | (go_at_call 84; (refine (HRd.out _).mono ?_); rintro e w4 ⟨v4, rfl, hR, hb⟩; obtain ⟨A4, c4, rfl⟩ := Kd.R_slice hR; have HR4 := Aside0.mk (Kd.R_reads' hR); have HO4 := Aside0.mk ((HO.out.keep HB4.out).keep hb); have HI4 := Aside0.mk ((hb.block _ (Array.getElem?_eq_some_iff.1 HB1.out).1).trans HB1.out); clear hR hb) | (go_at_call 86; (refine (any_reads N i _ _ HiN.out.1 HiN.out.2 ⟨_, HO4.out.c⟩ ⟨_, HI4.out⟩ _ _ _ HR4.out.2.2 true HQ.out).mono ?_); rintro e w5 ⟨rfl, ⟨nd, rfl⟩⟩))
              go_ret
              exact ⟨pw_below_drewN HO4.out.b _, .inr ⟨HF.out, rfl⟩⟩
          | false =>
            have hst := all_step HG.out hi (by rw [HGo.out]; rfl)
            have HSt := Aside0.mk hst
            have htk : (ls.take i).map unitOf ++ [unitV k a b] = (ls.take (i + 1)).map unitOf := by
              rw [List.take_succ_eq_append_getElem hi, List.map_append]
              congr 1
              show _ = [unitOf ls[i]]
              rw [HSs.out]
              rfl
            rw [hTx] at htk
            have HTk := Aside0.mk htk
            clear hst htk
            clear HSs hi ct HGo HG
            rcases hcase with ⟨e5, e6⟩ | e5
            all_goals
              go_wp2_with (first | (go_at_call 85; (refine (HM.out _).mono ?_); rintro e w3 ⟨rfl, hb⟩; obtain ⟨b1, b2, b3, b4⟩ := boxes_after i k a b hb; have HB1 := Aside0.mk b1; have HB4 := Aside0.mk b4; clear hb b1 b4) | (go_at_call 84; (refine (HRd.out _).mono ?_); rintro e w4 ⟨v4, rfl, hR, hb⟩; obtain ⟨A4, c4, rfl⟩ := Kd.R_slice hR; have HR4 := Aside0.mk (Kd.R_reads' hR); have HO4 := Aside0.mk ((HO.out.keep HB4.out).keep hb); have HI4 := Aside0.mk ((hb.block _ (Array.getElem?_eq_some_iff.1 HB1.out).1).trans HB1.out); clear hR hb) | (go_at_call 86; (refine (any_reads N i _ _ HiN.out.1 HiN.out.2 ⟨_, HO4.out.c⟩ ⟨_, HI4.out⟩ _ _ _ HR4.out.2.2 false HQ.out).mono ?_); rintro e w5 ⟨rfl, ⟨nd, rfl⟩⟩))
              have HO5 := Aside0.mk (HO4.out.keep (pw_below_drewN (Below.refl _ _) nd))
              generalize w4.drewN nd = w5 at *
              clear b2 b3
              obtain ⟨Au, cu, l1, l2, l3, l4⟩ := HO5.out.cells
              have HL4 := Aside0.mk l4
              have HL3 := Aside0.mk l3
              have HL1 := Aside0.mk l1
              have HL2 := Aside0.mk l2
              obtain ⟨i0, hi0, hz0, hz1, hz2⟩ := info_parts info_unit
              have HI0 := Aside0.mk (And.intro hi0 (And.intro hz0 (And.intro hz1 hz2)))
              have HMx := Aside0.mk (show i + 1 ≤ maxLen by unfold maxLen; have := HiN.out; omega)
              have HMb := Aside0.mk (show (i + 1) * 16 ≤ 140737488355328 by have := HiN.out; omega)
              have HSz := Aside0.mk (show w.heap.size + 3 ≤ (w5.alloc (.cells #[.iface T x] 105)).drew.heap.size by show w.heap.size + 3 ≤ (w5.alloc (.cells #[.iface T x] 105)).heap.size; rw [World.size_alloc]; have := HO5.out.size; omega)
              have HBq := Aside0.mk (show Below w5.heap.size w5 (w5.alloc (.cells #[.iface T x] 105)).drew from below_drew1 (below_alloc (Below.refl _ _) _))
              have HB0 := Aside0.mk (show Below (w.heap.size + 3) w5 (w5.alloc (.cells #[.iface T x] 105)).drew from Below.mono HBq.out HO5.out.size)
              have HBa := Aside0.mk (show Below w5.heap.size w5 (w5.alloc (.cells #[.iface T x] 105)) from below_alloc (Below.refl _ _) _)
              have l1a := pw_cell_below HBq.out l1
              have l2a := pw_cell_below HBq.out l2
              have HHs := Aside0.mk (show (w5.alloc (.cells #[.iface T x] 105)).drew.heap.size = w5.heap.size + 1 by show (w5.alloc (.cells #[.iface T x] 105)).heap.size = _; rw [World.size_alloc])
              have HLt4 := Aside0.mk (show w.heap.size + 1 + 1 < w.heap.size + 3 by omega)
              have HLt3 := Aside0.mk (show w.heap.size + 1 < w.heap.size + 3 by omega)
              clear hi0 hz0 hz1 hz2 l3 l4
              go_region_law (first | ((refine gate_op (.call { callee := .builtin .append, args := #[.tmp 68, .tmp 70], argTypes := #[98, 98] }) rfl ?_); (refine step_append_lies _ rfl (.tmp 68) (.tmp 70) 98 rfl (w.heap.size + 3) 105 i0 .nilIface 1 16 Try.underlying98 HI0.out.1 HI0.out.2.1 HI0.out.2.2.1 HI0.out.2.2.2 rfl Nat.one_pos (.slice Au i cu) i ((ls.take i).map unitOf) rfl (own_below HL4.out HBq.out) ⟨w5.heap.size, 0, none⟩ 1 1 [.iface T x] rfl rfl (news_one (cell_new w5 #[.iface T x] 105 0 rfl)) (one_iface T x) Nat.one_pos HMx.out HMb.out HSz.out (w5.heap.size + 1) HHs.out ?_); (intro g9 cap9 w9 hown9 hgrow9 hl9 hlt9; rw [HTk.out] at hown9; have HR9 := Aside0.mk hown9; have HB9 := Aside0.mk (show Below (w.heap.size + 3) w5 w9 from pw_below_grown HB0.out _ HSz.out hgrow9 (own_block HL4.out)); have l9 := (HB9.out.cell (p := ⟨w.heap.size + 1, 3, none⟩) HLt3.out).trans HL2.out; have l8 := (HB9.out.cell (p := ⟨w.heap.size + 1 + 1, 0, none⟩) HLt4.out).trans HL1.out; have f9 := (frozen_at HB9.out (p := ⟨w.heap.size + 1, 3, none⟩) HLt3.out).trans HL3.out; clear hown9 hgrow9 hl9 hlt9)))
              all_goals
                have hO6 := HO5.out.push HB9.out HR9.out
                have HO6 := Aside0.mk hO6
                clear hO6
                go_wp2
                go_roundw
                case rel => exact ⟨i + 1, by rw [w64 (by have := HiN.out; omega) (by have := HiN.out; omega)]; rfl, ⟨HLt.out⟩, HSt, HO6⟩
                case measure => rw [w64 (by have := HiN.out; omega) (by have := HiN.out; omega)]; have := HLt.out; simp [intOf]; omega
      · have HN := Aside0.mk (made_none k a b hk)
        have HF := Aside0.mk (okC_gate (N := N) (os := os) hi (by rw [HSs.out]; unfold gateOk; rw [decide_eq_false hk, Bool.false_and]))
        clear HSs
        clear hk hi ct
        go_wp2_with (go_at_call 85; (refine (HN.out _).mono ?_); rintro e w' ⟨rfl, hb⟩; have HB2 := Aside0.mk hb; clear hb)
        go_ret
        exact ⟨HO.out.b.trans ((below_alloc (below_alloc (Below.refl _ _) _) _).trans (HB2.out.mono (by simp only [World.size_alloc]; have := HO.out.size; omega)) |>.mono (by have := HO.out.size; omega)), .inr ⟨HF.out, rfl⟩⟩
    · have c1b : decide ((i : Int) < (ls.length : Int)) = false := decide_eq_false ct
      have c1c : decide (i < ls.length) = false := decide_eq_false (by omega)
      have hil : i = ls.length := by have := Hi.out; omega
      subst hil
      have HGk := Aside0.mk (gatesOk_of HG.out)
      have HN6 := Aside0.mk (show N ≤ 6 ∧ ls.length ≤ 16 by have := HH.out; omega)
      have hC0 := blkc HO.out.c 2 rfl
      have HCi := Aside0.mk (HO.out.circ HR1.out HC.out.1 HR2.out HC.out.2)
      obtain ⟨q, hq⟩ : ∃ q, os.any (badL (N + ls.length)) = q := ⟨_, rfl⟩
      have HQ := Aside0.mk hq
      have HOk := Aside0.mk (show okC (N : Int) ls os = !q by
        unfold okC
        rw [Int.toNat_natCast, hq, HGk.out, Bool.true_and, decide_eq_true (by have := HH.out; omega), Bool.true_and])
      have HRw := Aside0.mk (Kd.C_below HR2.out HO.out.b)
      have hx0 := blkc HO.out.x 0 rfl
      clear ct hq HG
      cases q with
      | true =>
        go_wp2_with (go_at_call 86; (refine (any_outs _ N _ ls os HN6.out.1 HN6.out.2 HCi.out ⟨_, HO.out.x⟩ _ _ _ HRw.out true HQ.out).mono ?_); rintro e w5 ⟨rfl, ⟨nd, rfl⟩⟩)
        go_ret
        exact ⟨pw_below_drewN HO.out.b _, .inr ⟨HOk.out, rfl⟩⟩
      | false =>
        go_wp2_with (go_at_call 86; (refine (any_outs _ N _ ls os HN6.out.1 HN6.out.2 HCi.out ⟨_, HO.out.x⟩ _ _ _ HRw.out false HQ.out).mono ?_); rintro e w5 ⟨rfl, ⟨nd, rfl⟩⟩)
        go_ret
        exact ⟨pw_below_drewN HO.out.b _, .inl ⟨HOk.out, _, rfl, HCi.out.drewN _⟩⟩
theorem of_bad (n : Int) (ls : List S40) (os : List Int) (A1 : Option Addr) (c1 : Nat) (A2 : Option Addr) (c2 : Nat) (w : World) (h0 : ¬ (1 ≤ n ∧ n ≤ 6 ∧ ls.length ≤ 16 ∧ 1 ≤ os.length ∧ os.length ≤ 4)) :
    Calls Try.prog 54 #[.agg #[.int .i64 n, .slice A1 ls.length c1, .slice A2 os.length c2]] w fun e w' => e = .returned (.pointer none) ∧ Below w.heap.size w w' := by
  have HB := Aside0.mk (Below.refl w.heap.size w)
  by_cases e1 : n < 1
  · have d1 : decide (n < 1) = true := decide_eq_true e1
    clear h0 e1
    go_enter Try.func54, Try.ntmps54
    go_wp2
    go_ret
    exact ⟨rfl, below_alloc HB.out _⟩
  have d1 : decide (n < 1) = false := decide_eq_false e1
  by_cases e2 : 6 < n
  · have d2 : decide (6 < n) = true := decide_eq_true e2
    clear h0 e1 e2
    go_enter Try.func54, Try.ntmps54
    go_wp2
    go_ret
    exact ⟨rfl, below_alloc HB.out _⟩
  have d2 : decide (6 < n) = false := decide_eq_false e2
  by_cases e3 : 16 < (ls.length : Int)
  · have d3 : decide (16 < (ls.length : Int)) = true := decide_eq_true e3
    have d3' : decide (16 < ls.length) = true := decide_eq_true (by omega)
    clear h0 e1 e2 e3
    go_enter Try.func54, Try.ntmps54
    go_wp2
    go_ret
    exact ⟨rfl, below_alloc HB.out _⟩
  have d3 : decide (16 < (ls.length : Int)) = false := decide_eq_false e3
  have d3' : decide (16 < ls.length) = false := decide_eq_false (by omega)
  by_cases e4 : (os.length : Int) < 1
  · have d4 : decide ((os.length : Int) < 1) = true := decide_eq_true e4
    have d4' : decide (os.length < 1) = true := decide_eq_true (by omega)
    clear h0 e1 e2 e3 e4
    go_enter Try.func54, Try.ntmps54
    go_wp2
    go_ret
    exact ⟨rfl, below_alloc HB.out _⟩
  have d4 : decide ((os.length : Int) < 1) = false := decide_eq_false e4
  have d4' : decide (os.length < 1) = false := decide_eq_false (by omega)
  have d5 : decide (4 < (os.length : Int)) = true := decide_eq_true (by omega)
  have d5' : decide (4 < os.length) = true := decide_eq_true (by omega)
  clear h0 e1 e2 e3 e4
  go_enter Try.func54, Try.ntmps54
  go_wp2
  go_ret
  exact ⟨rfl, below_alloc HB.out _⟩
theorem okC_small {n : Int} {ls : List S40} {os : List Int} (h : okC n ls os = true) : 1 ≤ n ∧ n ≤ 6 ∧ ls.length ≤ 16 ∧ 1 ≤ os.length ∧ os.length ≤ 4 := by
  unfold okC at h
  rw [Bool.and_eq_true, decide_eq_true_eq] at h
  exact h.1
theorem of_ok (N : Nat) (ls : List S40) (os : List Int) (A1 : Option Addr) (c1 : Nat) (A2 : Option Addr) (c2 : Nat) (w : World) (h : okC (N : Int) ls os = true) (hr1 : Kd.C k40 w A1 ls.length ls) (hc1 : ls.length ≤ c1) (hr2 : Kd.C (Kd.int .i64) w A2 os.length os) (hc2 : os.length ≤ c2) :
    Calls Try.prog 54 #[.agg #[.int .i64 (N : Int), .slice A1 ls.length c1, .slice A2 os.length c2]] w fun e w' => ∃ g, e = .returned (.pointer (some ⟨g, 0, none⟩)) ∧ CircAt w' g N ls os ∧ Below w.heap.size w w' := by
  have hs := okC_small h
  refine (of_main N ls os A1 c1 A2 c2 w (by omega) hr1 hc1 hr2 hc2).mono ?_
  rintro e w' ⟨hb, ⟨_, g, he, hc⟩ | ⟨hn, _⟩⟩
  · exact ⟨g, he, hc, hb⟩
  · rw [h] at hn; cases hn
theorem of_no (n : Int) (ls : List S40) (os : List Int) (A1 : Option Addr) (c1 : Nat) (A2 : Option Addr) (c2 : Nat) (w : World) (h : okC n ls os = false) (hr1 : Kd.C k40 w A1 ls.length ls) (hc1 : ls.length ≤ c1) (hr2 : Kd.C (Kd.int .i64) w A2 os.length os) (hc2 : os.length ≤ c2) :
    Calls Try.prog 54 #[.agg #[.int .i64 n, .slice A1 ls.length c1, .slice A2 os.length c2]] w fun e w' => e = .returned (.pointer none) ∧ Below w.heap.size w w' := by
  by_cases hs : 1 ≤ n ∧ n ≤ 6 ∧ ls.length ≤ 16 ∧ 1 ≤ os.length ∧ os.length ≤ 4
  · obtain ⟨N, rfl⟩ := Int.eq_ofNat_of_zero_le (show 0 ≤ n by omega)
    refine (of_main N ls os A1 c1 A2 c2 w (by omega) hr1 hc1 hr2 hc2).mono ?_
    rintro e w' ⟨hb, ⟨hn, _⟩ | ⟨_, he⟩⟩
    · rw [h] at hn; cases hn
    · exact ⟨he, hb⟩
  · exact of_bad n ls os A1 c1 A2 c2 w hs
end Go.Proofs.Ytelfalicickelaa.P
