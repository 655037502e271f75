/- Texts of this claim, merged by a program (shake.py): what the last theorems reach of Pt, Kit, QUnit, Shelf, Pop, HBits, QOut, GateN, QCirc, QOfA. -/
import Derived.Test.YtelfalicickelaaProg
import Derived.Below
import Derived.Deep.Draws
import Derived.Deep.AppendLies
import Derived.Maps.AppendAt
import Derived.OwnWalk
import Derived.Laws.BytesArg
import Derived.Laws.MakeOwn
import Derived.Laws.OwnMore
import Derived.Deep.OwnRows
import Derived.Tactics
import Derived.Lib.ConvBytes
import Derived.Laws.Slices
import Derived.WalkKit
import Derived.KernelRfl
import Derived.RowKit3
import Derived.Deep.LoopGhost
import Derived.Deep.QuietTactic
import Derived.BigQuiet
import Derived.WideLaws
import Derived.Deep.DeepCutAuto
import Derived.Deep.CutBlock
import Derived.Deep.RegionHeld3
import Derived.Laws.Rows
import Derived.Lib.AppendStr
import Derived.ArgAppend
import Derived.Laws.IdiomCopy
import Derived.OrdersHeld
import Derived.Laws.BitsLemmas
import Derived.RowKit
import Derived.Laws.Entries
import Derived.Handy
import Derived.Ground.SlgnProg
import Derived.Shelf.SlicesE.Equal
import Derived.Shelf.SlicesE.Clone
import Derived.Ground.SlgfProg
import Derived.Shelf.SlicesE.IndexFunc
import Derived.Shelf.SlicesE.DeleteFunc
import Derived.Lib.BitFns
import Derived.Deep.DeepMust
import Derived.Laws.NewBlocks
import Derived.Test.YtelfalicickelaaKW1
import Derived.Test.YtelfalicickelaaKW2
namespace Go.Proofs.Ytelfalicickelaa.P
open Go.RowKit Go.Proofs.YtelfalicickelaaW.PrintWords Go.Proofs.YtelfalicickelaaW.PrintLast Go.Proofs.YtelfalicickelaaW.PrintMore
attribute [local go_sem] max2_int max_two
set_option linter.unusedVariables false
set_option linter.unusedSimpArgs false
theorem info3 : (Try.prog.info? 3).map (fun i => (i.zero, i.size, i.bytes)) = some (some (.int .i64 0), 1, 8) := by kernel_rfl
theorem info4 : (Try.prog.info? 4).map (fun i => (i.zero, i.size, i.bytes)) = some (some (.bool false), 1, 1) := by kernel_rfl
theorem info23 : (Try.prog.info? 23).map (fun i => (i.zero, i.size, i.bytes)) = some (some (.slice none 0 0), 1, 24) := by kernel_rfl
theorem info40 : (Try.prog.info? 40).map (fun i => (i.zero, i.size, i.bytes)) = some (some (.agg #[(.int .i64 0), (.int .i64 0), (.int .i64 0)]), 3, 24) := by kernel_rfl
theorem info74 : (Try.prog.info? 74).map (fun i => (i.zero, i.size, i.bytes)) = some (some (.int .u64 0), 1, 8) := by kernel_rfl
structure S40 where
  f0 : Int
  f1 : Int
  f2 : Int
def z40 : S40 := ⟨(0 : Int), (0 : Int), (0 : Int)⟩
def k40 : Kd S40 := Kd.iso (Kd.pair (Kd.int .i64) (Kd.pair (Kd.int .i64) (Kd.int .i64))) (fun x : S40 => (x.f0, x.f1, x.f2))
theorem k40_open {w : World} {x : S40} {cs : List Value} (h : k40.K w x cs) : cs = [.int .i64 x.f0, .int .i64 x.f1, .int .i64 x.f2] := by
  obtain ⟨_, _, rfl, rfl, ⟨_, _, rfl, rfl, rfl⟩⟩ := h
  exact rfl
theorem k40_mk (w : World) (x : S40)  : k40.K w x [.int .i64 x.f0, .int .i64 x.f1, .int .i64 x.f2] := ⟨[.int .i64 x.f0], [.int .i64 x.f1, .int .i64 x.f2], rfl, rfl, ⟨[.int .i64 x.f1], [.int .i64 x.f2], rfl, rfl, rfl⟩⟩
theorem k40_mkM (w : World) (base : Nat) (ok : Nat → Prop) (x : S40)  : k40.M w base ok x [.int .i64 x.f0, .int .i64 x.f1, .int .i64 x.f2] := ⟨[.int .i64 x.f0], [.int .i64 x.f1, .int .i64 x.f2], rfl, rfl, ⟨[.int .i64 x.f1], [.int .i64 x.f2], rfl, rfl, rfl⟩⟩
def rd_T40 (xs : List S40) (i : Int) : S40 := xs.getD i.toNat z40
theorem at_T40 {w : World} {A : Option Addr} {n : Nat} {xs : List S40} (h : Kd.C k40 w A n xs) (i : Int) (h0 : 0 ≤ i) (h1 : i < n) : ∃ ad , A = some ad ∧ w.cell? (ad.add (i.toNat * 3)) = some (.int .i64 (rd_T40 xs i).f0) ∧ w.cell? ⟨(ad.add (i.toNat * 3)).block, (ad.add (i.toNat * 3)).off + 1, none⟩ = some (.int .i64 (rd_T40 xs i).f1) ∧ w.cell? ⟨(ad.add (i.toNat * 3)).block, (ad.add (i.toNat * 3)).off + 2, none⟩ = some (.int .i64 (rd_T40 xs i).f2) := by
  obtain ⟨ad, c, e, _, hK, hc0⟩ := Kd.C_get h z40 i h0 h1
  have hc : ∀ j u, c[j]? = some u → w.cell? (ad.add (i.toNat * 3 + j)) = some u := hc0
  obtain rfl := k40_open hK
  exact ⟨ad, e, hc 0 _ rfl, by rw [← add_field _ _ 1 (by omega)]; exact hc 1 _ rfl, by rw [← add_field _ _ 2 (by omega)]; exact hc 2 _ rfl⟩
def rd_L4 (xs : List (List Int)) (i : Int) : (List Int) := xs.getD i.toNat ([] : List Int)
theorem at_L4 {w : World} {A : Option Addr} {n : Nat} {xs : List (List Int)} (h : Kd.C (Kd.slice 3 (Kd.int .i64)) w A n xs) (i : Int) (h0 : 0 ≤ i) (h1 : i < n) : ∃ ad A0 c0, A = some ad ∧ w.cell? (ad.add i.toNat) = some (.slice A0 (rd_L4 xs i).length c0) ∧ (rd_L4 xs i).length ≤ c0 ∧ (Kd.int .i64).C w A0 (rd_L4 xs i).length (rd_L4 xs i) := by
  obtain ⟨ad, c, e, _, hK, hc0⟩ := Kd.C_get h ([] : List Int) i h0 h1
  have hc : ∀ j u, c[j]? = some u → w.cell? (ad.add (i.toNat * 1 + j)) = some u := hc0
  obtain ⟨A0, c0, rfl, l0, g0⟩ := hK
  exact ⟨ad, A0, c0, e, by have hq := hc 0 _ rfl; rwa [Nat.mul_one, Nat.add_zero] at hq, l0, g0⟩
end Go.Proofs.Ytelfalicickelaa.P
set_option linter.unusedSimpArgs false
set_option linter.unusedVariables false
namespace Go.Proofs.Ytelfalicickelaa.Kit
open Go.RowKit Go.Proofs.YtelfalicickelaaW.PrintWords Go.Proofs.YtelfalicickelaaW.PrintMore
theorem w64 {x : Int} (h0 : -9223372036854775808 ≤ x) (h1 : x ≤ 9223372036854775807) : wrap64 x = x := by
  unfold wrap64
  omega
theorem w64n (n : Nat) (h : n ≤ 9223372036854775807) : wrap64 (n : Int) = n := w64 (by omega) (by omega)
theorem pow_le62 {n : Nat} (h : n ≤ 62) : 2 ^ n ≤ 4611686018427387904 := by
  have : 2 ^ n ≤ 2 ^ 62 := Nat.pow_le_pow_right (by decide) h
  simpa using this
theorem shl1 {n : Int} (h0 : 0 ≤ n) (h1 : n ≤ 62) : shl .i64 1 n = ((2 ^ n.toNat : Nat) : Int) := by
  unfold shl
  have hb : IntKind.i64.bits = 64 := rfl
  rw [hb, Nat.min_eq_left (by omega), IntKind.wrap_i64]
  have h2 := pow_le62 (n := n.toNat) (by omega)
  have h3 : ((2 : Int) ^ n.toNat) = ((2 ^ n.toNat : Nat) : Int) := by simp
  rw [Int.one_mul, h3]
  generalize 2 ^ n.toNat = p at h2
  omega
theorem shl1n {n : Nat} (h1 : n ≤ 62) : shl .i64 1 (n : Int) = ((2 ^ n : Nat) : Int) := by
  have := shl1 (n := (n : Int)) (by omega) (by omega)
  simpa using this
theorem bits_i64 (op : BinOp) (x y : Nat) (hx : x < 9223372036854775808) (hy : y < 9223372036854775808) :
    (op = .and → Go.bits .and .i64 (x : Int) (y : Int) = ((x &&& y : Nat) : Int)) := by
  intro _
  have hw : ∀ n : Int, 0 ≤ n → n < 2 ^ 63 → IntKind.i64.wrap n = n := fun n h0 h1 => by
    have h1' : n < 9223372036854775808 := by simpa using h1
    rw [IntKind.wrap_i64]; omega
  exact (bits_nat .i64 63 (by decide) hw x y (by simpa using hx) (by simpa using hy)).1
theorem and64 (x y : Nat) (hx : x < 9223372036854775808) (hy : y < 9223372036854775808) : Go.bits .and .i64 (x : Int) (y : Int) = ((x &&& y : Nat) : Int) := bits_i64 .and x y hx hy rfl
theorem or64 (x y : Nat) (hx : x < 9223372036854775808) (hy : y < 9223372036854775808) : Go.bits .or .i64 (x : Int) (y : Int) = ((x ||| y : Nat) : Int) := by
  have hw : ∀ n : Int, 0 ≤ n → n < 2 ^ 63 → IntKind.i64.wrap n = n := fun n h0 h1 => by
    have h1' : n < 9223372036854775808 := by simpa using h1
    rw [IntKind.wrap_i64]; omega
  exact (bits_nat .i64 63 (by decide) hw x y (by simpa using hx) (by simpa using hy)).2
theorem rd_get (l : List Int) (i : Nat) (h : i < l.length) : rd l (i : Int) = l[i] := by
  unfold rd
  simp [List.getD_eq_getElem?_getD, List.getElem?_eq_getElem h]
end Go.Proofs.Ytelfalicickelaa.Kit
set_option linter.unusedSimpArgs false
set_option linter.unusedVariables false
namespace Go.Proofs.Ytelfalicickelaa.P
open Go.Lib Go.RowKit Go.Proofs.YtelfalicickelaaW.PrintWords Go.Proofs.YtelfalicickelaaW.PrintLast Go.Proofs.YtelfalicickelaaW.PrintMore Go.Proofs.Ytelfalicickelaa.Kit
def pairV (t : Nat) (a b : Int) : Value := .iface t (.agg #[.int .i64 a, .int .i64 b])
def unitV (k a b : Int) : Value :=
  if k = 0 then pairV 122 a b
  else if k = 1 then pairV 123 a b
  else if k = 2 then pairV 124 a b
  else if k = 3 then .iface 116 (.agg #[pairV 122 a b])
  else if k = 4 then .iface 116 (.agg #[pairV 123 a b])
  else if k = 5 then .iface 118 (.agg #[.int .i64 a])
  else .nilIface
theorem kinds {k : Int} (h0 : 0 ≤ k) (h5 : k ≤ 5) : k = 0 ∨ k = 1 ∨ k = 2 ∨ k = 3 ∨ k = 4 ∨ k = 5 := by omega
set_option maxHeartbeats 4000000
set_option maxRecDepth 100000
theorem made_some (k a b : Int) (hk : 0 ≤ k ∧ k ≤ 5) (w : World) :
    Calls Try.prog 85 #[.agg #[.int .i64 k, .int .i64 a, .int .i64 b]] w fun e w' => e = .returned (unitV k a b) ∧ Below w.heap.size w w' := by
  have HB := Aside0.mk (Below.refl w.heap.size w)
  rcases kinds hk.1 hk.2 with rfl | rfl | rfl | rfl | rfl | rfl
  all_goals
    clear hk
    go_enter Try.func85, Try.ntmps85
    go_wp2
    go_ret
    refine ⟨rfl, ?_⟩
    repeat (first | exact HB.out | apply below_alloc)
theorem made_none (k a b : Int) (hk : ¬ (0 ≤ k ∧ k ≤ 5)) (w : World) :
    Calls Try.prog 85 #[.agg #[.int .i64 k, .int .i64 a, .int .i64 b]] w fun e w' => e = .returned .nilIface ∧ Below w.heap.size w w' := by
  have HB := Aside0.mk (Below.refl w.heap.size w)
  have h0 : (k == 0) = false := beq_eq_false_iff_ne.2 (by omega)
  have h1 : (k == 1) = false := beq_eq_false_iff_ne.2 (by omega)
  have h2 : (k == 2) = false := beq_eq_false_iff_ne.2 (by omega)
  have h3 : (k == 3) = false := beq_eq_false_iff_ne.2 (by omega)
  have h4 : (k == 4) = false := beq_eq_false_iff_ne.2 (by omega)
  have h5 : (k == 5) = false := beq_eq_false_iff_ne.2 (by omega)
  clear hk
  go_enter Try.func85, Try.ntmps85
  go_wp2
  go_ret
  refine ⟨rfl, ?_⟩
  repeat (first | exact HB.out | apply below_alloc)
def readsL (k a b : Int) : List Int := if k = 5 then [a] else [a, b]
theorem as_opposite_opposite (v : Value) (w : World) : (Instr.typeAssert (.iface 116 v) 105 116 true).run Try.prog w = .ok (.tuple #[v, .bool true]) w := by kernel_rfl
theorem as_not_opposite (v : Value) (w : World) : (Instr.typeAssert (.iface 118 v) 105 116 true).run Try.prog w = .ok (.tuple #[.agg #[.nilIface], .bool false]) w := by kernel_rfl
theorem as_not_not (v : Value) (w : World) : (Instr.typeAssert (.iface 118 v) 105 118 true).run Try.prog w = .ok (.tuple #[v, .bool true]) w := by kernel_rfl
theorem as_and_opposite (v : Value) (w : World) : (Instr.typeAssert (.iface 122 v) 105 116 true).run Try.prog w = .ok (.tuple #[.agg #[.nilIface], .bool false]) w := by kernel_rfl
theorem as_and_not (v : Value) (w : World) : (Instr.typeAssert (.iface 122 v) 105 118 true).run Try.prog w = .ok (.tuple #[.agg #[.int .i64 0], .bool false]) w := by kernel_rfl
theorem as_and_and (v : Value) (w : World) : (Instr.typeAssert (.iface 122 v) 105 122 true).run Try.prog w = .ok (.tuple #[v, .bool true]) w := by kernel_rfl
theorem as_or_opposite (v : Value) (w : World) : (Instr.typeAssert (.iface 123 v) 105 116 true).run Try.prog w = .ok (.tuple #[.agg #[.nilIface], .bool false]) w := by kernel_rfl
theorem as_or_not (v : Value) (w : World) : (Instr.typeAssert (.iface 123 v) 105 118 true).run Try.prog w = .ok (.tuple #[.agg #[.int .i64 0], .bool false]) w := by kernel_rfl
theorem as_or_and (v : Value) (w : World) : (Instr.typeAssert (.iface 123 v) 105 122 true).run Try.prog w = .ok (.tuple #[.agg #[.int .i64 0, .int .i64 0], .bool false]) w := by kernel_rfl
theorem as_or_or (v : Value) (w : World) : (Instr.typeAssert (.iface 123 v) 105 123 true).run Try.prog w = .ok (.tuple #[v, .bool true]) w := by kernel_rfl
theorem as_xor_opposite (v : Value) (w : World) : (Instr.typeAssert (.iface 124 v) 105 116 true).run Try.prog w = .ok (.tuple #[.agg #[.nilIface], .bool false]) w := by kernel_rfl
theorem as_xor_not (v : Value) (w : World) : (Instr.typeAssert (.iface 124 v) 105 118 true).run Try.prog w = .ok (.tuple #[.agg #[.int .i64 0], .bool false]) w := by kernel_rfl
theorem as_xor_and (v : Value) (w : World) : (Instr.typeAssert (.iface 124 v) 105 122 true).run Try.prog w = .ok (.tuple #[.agg #[.int .i64 0, .int .i64 0], .bool false]) w := by kernel_rfl
theorem as_xor_or (v : Value) (w : World) : (Instr.typeAssert (.iface 124 v) 105 123 true).run Try.prog w = .ok (.tuple #[.agg #[.int .i64 0, .int .i64 0], .bool false]) w := by kernel_rfl
theorem as_xor_xor (v : Value) (w : World) : (Instr.typeAssert (.iface 124 v) 105 124 true).run Try.prog w = .ok (.tuple #[v, .bool true]) w := by kernel_rfl
attribute [local go_sem] as_opposite_opposite as_not_opposite as_not_not as_and_opposite as_and_not as_and_and as_or_opposite as_or_not as_or_and as_or_or as_xor_opposite as_xor_not as_xor_and as_xor_or as_xor_xor
theorem reps_of_nums0 (k : IntKind) (xs : List Int) : Reps (fun (x : Int) cs => cs = [Value.int k x]) 1 xs (nums k xs) := by
  refine ⟨by rw [nums_length, Nat.mul_one], fun j p hj => ?_⟩
  have hlt : j < xs.length := by
    rcases Nat.lt_or_ge j xs.length with h | h
    · exact h
    · rw [List.getElem?_eq_none h] at hj; cases hj
  rw [List.getElem?_eq_getElem hlt] at hj
  injection hj with hj
  rw [Nat.mul_one]
  apply List.ext_getElem?
  intro i
  cases i with
  | zero => simp [nums, List.getElem?_eq_getElem hlt, hj]
  | succ i =>
    simp
    omega
theorem R_int_mk0 {k : IntKind} {e base : Nat} {ok : Nat → Prop} {w : World} {v : Value} {xs : List Int} (h0 : ∀ j, v.ownBlock = some j → ok j) (ho : w.ownsRow base e 1 v xs.length (nums k xs)) : (Kd.int k).R e w base ok v xs :=
  ⟨h0, nums k xs, ho, reps_of_nums0 k xs⟩
theorem R_made {k : IntKind} {e base g n : Nat} (W : World) {cs : Array Value} (xs : List Int) (hg : g = W.heap.size) (hcs : cs = (nums k xs).toArray) (hn : n = xs.length) (hb : base ≤ W.heap.size) (hl : xs.length ≤ maxLen) : (Kd.int k).R e (W.alloc (.cells cs e)) base (fun _ => True) (.slice (some ⟨g, 0, none⟩) n n) xs := by
  subst hg hcs hn
  exact R_int_mk0 (fun _ _ => trivial) ⟨by rw [nums_length, Nat.mul_one], .inr ⟨W.heap.size, xs.length, _, rfl, hb, heap_alloc_new W _, Nat.le_refl _, hl, by simp [nums_length], by rw [Nat.mul_one]; exact List.take_of_length_le (by simp [nums_length])⟩⟩
theorem reps_nums1 {k : IntKind} {xs : List Int} {cs : List Value} (h : Reps (fun (x : Int) cs => cs = [Value.int k x]) 1 xs cs) : cs = nums k xs := by
  obtain ⟨hl, he⟩ := h
  apply List.ext_getElem?
  intro j
  by_cases hj : j < xs.length
  · have h1 := he j xs[j] (List.getElem?_eq_getElem hj)
    rw [Nat.mul_one] at h1
    have h2 : cs[j]? = ((cs.drop j).take 1)[0]? := by simp
    rw [h2, h1]
    simp [nums, List.getElem?_eq_getElem hj]
  · rw [List.getElem?_eq_none (by omega), List.getElem?_eq_none (by rw [nums_length]; omega)]
theorem R_int_own0 {k : IntKind} {e base : Nat} {ok : Nat → Prop} {w : World} {v : Value} {xs : List Int} (h : (Kd.int k).R e w base ok v xs) : w.ownsRow base e 1 v xs.length (nums k xs) := by
  obtain ⟨h0, inner, ho, hr⟩ := h
  have : inner = nums k xs := reps_nums1 hr
  subst this
  exact ho
theorem R_low {k : IntKind} {e base base' : Nat} {w : World} {v : Value} {xs : List Int} (h : (Kd.int k).R e w base (fun _ => True) v xs) (hb : base' ≤ base) : (Kd.int k).R e w base' (fun _ => True) v xs := by
  refine R_int_mk0 (fun _ _ => trivial) ?_
  have ho := R_int_own0 h
  refine ⟨ho.1, ?_⟩
  rcases ho.2 with h | ⟨g, cap, cur, h1, h2, h3⟩
  · exact .inl h
  · exact .inr ⟨g, cap, cur, h1, Nat.le_trans hb h2, h3⟩
theorem two_len {a b : Int} : [a, b].length ≤ maxLen := by show 2 ≤ maxLen; decide
theorem one_len {a : Int} : [a].length ≤ maxLen := by show 1 ≤ maxLen; decide
theorem reads_pair (t : Nat) (ht : t = 122 ∨ t = 123 ∨ t = 124) (a b : Int) (w : World) :
    Calls Try.prog 84 #[pairV t a b] w fun e w' => ∃ v0_ : Value, e = .returned v0_ ∧ Kd.R (Kd.int .i64) 3 w' w.heap.size (fun _ => True) v0_ [a, b] ∧ Below w.heap.size w w' := by
  have HB := Aside0.mk (Below.refl w.heap.size w)
  unfold pairV
  rcases ht with rfl | rfl | rfl
  all_goals
    go_enter Try.func84, Try.ntmps84
    go_wp2
    go_ret
    refine ⟨_, rfl, R_made _ [a, b] (by simp only [World.size_alloc]) rfl rfl (by simp only [World.size_alloc]; omega) two_len, ?_⟩
    repeat (first | exact HB.out | apply below_alloc)
theorem reads_calls (k a b : Int) (hk : 0 ≤ k ∧ k ≤ 5) (w : World) :
    Calls Try.prog 84 #[unitV k a b] w fun e w' => ∃ v0_ : Value, e = .returned v0_ ∧ Kd.R (Kd.int .i64) 3 w' w.heap.size (fun _ => True) v0_ (readsL k a b) ∧ Below w.heap.size w w' := by
  have HB := Aside0.mk (Below.refl w.heap.size w)
  rcases kinds hk.1 hk.2 with rfl | rfl | rfl | rfl | rfl | rfl
  · exact reads_pair _ (.inl rfl) a b w
  · exact reads_pair _ (.inr (.inl rfl)) a b w
  · exact reads_pair _ (.inr (.inr rfl)) a b w
  · clear hk
    show Calls _ _ #[.iface 116 (.agg #[pairV 122 a b])] w fun e w' => ∃ v0_ : Value, e = .returned v0_ ∧ Kd.R (Kd.int .i64) 3 w' w.heap.size (fun _ => True) v0_ [a, b] ∧ Below w.heap.size w w'
    have HR := Aside0.mk (fun W => reads_pair 122 (.inl rfl) a b W)
    unfold pairV at *
    go_enter Try.func84, Try.ntmps84
    go_wp2_with (go_at_call 84; (refine (HR.out _).mono ?_); rintro e w' ⟨v0, rfl, hR, hb⟩; have HR2 := Aside0.mk hR; have HB2 := Aside0.mk hb; clear hR hb)
    go_ret
    refine ⟨_, rfl, R_low HR2.out (by simp only [World.size_alloc]; omega), Below.trans ?_ (HB2.out.mono (by simp only [World.size_alloc]; omega))⟩
    repeat (first | exact HB.out | apply below_alloc)
  · clear hk
    show Calls _ _ #[.iface 116 (.agg #[pairV 123 a b])] w fun e w' => ∃ v0_ : Value, e = .returned v0_ ∧ Kd.R (Kd.int .i64) 3 w' w.heap.size (fun _ => True) v0_ [a, b] ∧ Below w.heap.size w w'
    have HR := Aside0.mk (fun W => reads_pair 123 (.inr (.inl rfl)) a b W)
    unfold pairV at *
    go_enter Try.func84, Try.ntmps84
    go_wp2_with (go_at_call 84; (refine (HR.out _).mono ?_); rintro e w' ⟨v0, rfl, hR, hb⟩; have HR2 := Aside0.mk hR; have HB2 := Aside0.mk hb; clear hR hb)
    go_ret
    refine ⟨_, rfl, R_low HR2.out (by simp only [World.size_alloc]; omega), Below.trans ?_ (HB2.out.mono (by simp only [World.size_alloc]; omega))⟩
    repeat (first | exact HB.out | apply below_alloc)
  · clear hk
    show Calls _ _ #[.iface 118 (.agg #[.int .i64 a])] w fun e w' => ∃ v0_ : Value, e = .returned v0_ ∧ Kd.R (Kd.int .i64) 3 w' w.heap.size (fun _ => True) v0_ [a] ∧ Below w.heap.size w w'
    go_enter Try.func84, Try.ntmps84
    go_wp2
    go_ret
    refine ⟨_, rfl, R_made _ [a] (by simp only [World.size_alloc]) rfl rfl (by simp only [World.size_alloc]; omega) one_len, ?_⟩
    repeat (first | exact HB.out | apply below_alloc)
end Go.Proofs.Ytelfalicickelaa.P
namespace Go.Proofs
open Go.Shelf
def Try.laysSlE33_f58_ren : Go.Shelf.Ren := ⟨fun | 33 => 58 | n => n, fun | 22 => 72 | 23 => 74 | 4 => 4 | 3 => 3 | 0 => 0 | n => n, fun | n => n⟩
theorem Try.laysSlE33_f58 : Go.Proofs.SlLaysE.n33 Try.prog Try.laysSlE33_f58_ren := {
  mixed := by kernel_rfl
  f33 := ⟨Try.f58.name, by decide, Try.func58.trans (congrArg some (by kernel_rfl))⟩
  t0 := Try.underlying0
  a0 := Try.isAgg0
  z0 := Try.sizeOf0
  v0 := Try.zeroValue0
  t3 := Try.underlying3
  a3 := Try.isAgg3
  z3 := Try.sizeOf3
  v3 := Try.zeroValue3
  t4 := Try.underlying4
  a4 := Try.isAgg4
  z4 := Try.sizeOf4
  v4 := Try.zeroValue4
  t22 := Try.underlying72
  a22 := Try.isAgg72
  z22 := Try.sizeOf72
  v22 := Try.zeroValue72
  a23 := Try.isAgg74
  z23 := Try.sizeOf74 }
open Go.RowKit Go.Lib in
theorem Try.slices_Equal {α : Type} [Inhabited α] (enc : α → Value) (eq : α → α → Bool) (hne : NeqAt Try.prog (Try.laysSlE33_f58_ren.t 23) enc eq) (b1 o1 n c b2 o2 m d : Nat) (xs ys : List α) (w : World) (hx : n ≤ xs.length) (hy : m ≤ ys.length) (hbig : n ≤ 9223372036854775807) (hbig2 : m ≤ 9223372036854775807) (hc1 : ∀ j, j < xs.length → w.cell? ⟨b1, o1 + j, none⟩ = some (enc xs[j]!)) (hc2 : ∀ j, j < ys.length → w.cell? ⟨b2, o2 + j, none⟩ = some (enc ys[j]!)) :
    Calls Try.prog 58 #[.slice (some ⟨b1, o1, none⟩) n c, .slice (some ⟨b2, o2, none⟩) m d] w fun e w' => e = .returned (.bool (Lib.allEq eq (xs.take n) (ys.take m))) ∧ ∃ q, w' = w.drewN q := AnyE.slices_Equal Try.laysSlE33_f58 enc eq hne b1 o1 n c b2 o2 m d xs ys w hx hy hbig hbig2 hc1 hc2
def Try.laysSlE041_f95_ren : Go.Shelf.Ren := ⟨fun | 41 => 95 | n => n, fun | 22 => 72 | 23 => 74 | 4 => 4 | n => n, fun | n => n⟩
theorem Try.laysSlE041_f95 : Go.Proofs.SlLaysE0.n41 Try.prog Try.laysSlE041_f95_ren := {
  mixed := by kernel_rfl
  f41 := ⟨Try.f95.name, by decide, Try.func95.trans (congrArg some (by kernel_rfl))⟩
  t4 := Try.underlying4
  a4 := Try.isAgg4
  z4 := Try.sizeOf4
  v4 := Try.zeroValue4
  t22 := Try.underlying72
  a22 := Try.isAgg72
  z22 := Try.sizeOf72
  v22 := Try.zeroValue72 }
open Go.RowKit Go.Lib in
theorem Try.slices_Clone (i0 : TypeInfo) (z : Value) (size bytes : Nat) (hi : Try.prog.info? (Try.laysSlE041_f95_ren.t 23) = some i0) (hz0 : i0.zero = some z) (hz1 : i0.size = size) (hz2 : i0.bytes = bytes) (hzs : z.cells.size = size) (hsz : 0 < size) (z23 : ∀ w, (Go.sizeOf (Try.laysSlE041_f95_ren.t 23)).run Try.prog w = .ok size w) (b off n c : Nat) (news : List Value) (w : World) (hl : news.length = n * size) (hn : n ≤ maxLen) (hbig : n * bytes ≤ 140737488355328) (hc : ∀ j u, news[j]? = some u → w.cell? ⟨b, off + j, none⟩ = some u) (h1 : ∀ u ∈ news, u.oneCell' = true) :
    Calls Try.prog 95 #[.slice (some ⟨b, off, none⟩) n c] w fun e w' => ∃ v', e = .returned v' ∧ w'.ownsRow w.heap.size (Try.laysSlE041_f95_ren.t 23) size v' n news ∧ v' ≠ .slice none 0 0 ∧ Below w.heap.size w w' := AnyE.slices_Clone Try.laysSlE041_f95 i0 z size bytes hi hz0 hz1 hz2 hzs hsz z23 b off n c news w hl hn hbig hc h1
def Try.laysSlH8_f86_ren : Go.Shelf.Ren := ⟨fun | 8 => 86 | 6 => 98 | n => n, fun | 22 => 23 | 23 => 3 | 25 => 108 | 4 => 4 | 3 => 3 | 0 => 0 | n => n, fun | n => n⟩
theorem Try.laysSlH8_f86 : Go.Proofs.SlLaysH.n8 Try.prog Try.laysSlH8_f86_ren := {
  mixed := by kernel_rfl
  f6 := ⟨Try.f98.name, by decide, Try.func98.trans (congrArg some (by kernel_rfl))⟩
  f8 := ⟨Try.f86.name, by decide, Try.func86.trans (congrArg some (by kernel_rfl))⟩
  t0 := Try.underlying0
  a0 := Try.isAgg0
  z0 := Try.sizeOf0
  v0 := Try.zeroValue0
  t3 := Try.underlying3
  a3 := Try.isAgg3
  z3 := Try.sizeOf3
  v3 := Try.zeroValue3
  t4 := Try.underlying4
  a4 := Try.isAgg4
  z4 := Try.sizeOf4
  v4 := Try.zeroValue4
  t22 := Try.underlying23
  a22 := Try.isAgg23
  z22 := Try.sizeOf23
  v22 := Try.zeroValue23
  a23 := Try.isAgg3
  z23 := Try.sizeOf3
  t25 := Try.underlying108
  a25 := Try.isAgg108
  z25 := Try.sizeOf108
  v25 := Try.zeroValue108 }
open Go.RowKit Go.Lib in
theorem Try.slices_ContainsFunc {α : Type} [Inhabited α] (enc : α → Value) (p : α → Bool) (g : Nat) (lb : Array Value) (eg : ∀ args w, (callFunc g args).run Try.prog w = .ok (.enter g args) w) (b off n c : Nat) (zs : List α) (w : World) (hp : PredAt Try.prog g lb enc p w) (hz : n ≤ zs.length) (hbig : n ≤ 9223372036854775807) (hc : ∀ j, j < zs.length → w.cell? ⟨b, off + j, none⟩ = some (enc zs[j]!)) :
    Calls Try.prog 86 #[.slice (some ⟨b, off, none⟩) n c, .func (.func g) #[] lb] w fun e w' => e = .returned (.bool ((zs.take n).any p)) ∧ ∃ q, w' = w.drewN q := AnyE.slices_ContainsFunc Try.laysSlH8_f86 enc p g lb eg b off n c zs w hp hz hbig hc
open Go.RowKit Go.Lib in
theorem Try.slices_ContainsFunc_empty {α : Type} [Inhabited α] (a : Option Addr) (c : Nat) (fv : Value) (w : World) :
    Calls Try.prog 86 #[.slice a 0 c, fv] w fun e w' => e = .returned (.bool false) ∧ w' = w := AnyE.slices_ContainsFunc_empty Try.laysSlH8_f86 a c fv w
def Try.laysSlH10_f94_ren : Go.Shelf.Ren := ⟨fun | 10 => 94 | 6 => 100 | n => n, fun | 22 => 72 | 23 => 74 | 25 => 91 | 3 => 3 | 4 => 4 | 0 => 0 | n => n, fun | n => n⟩
theorem Try.laysSlH10_f94 : Go.Proofs.SlLaysH.n10 Try.prog Try.laysSlH10_f94_ren := {
  mixed := by kernel_rfl
  f6 := ⟨Try.f100.name, by decide, Try.func100.trans (congrArg some (by kernel_rfl))⟩
  f10 := ⟨Try.f94.name, by decide, Try.func94.trans (congrArg some (by kernel_rfl))⟩
  t0 := Try.underlying0
  a0 := Try.isAgg0
  z0 := Try.sizeOf0
  v0 := Try.zeroValue0
  t3 := Try.underlying3
  a3 := Try.isAgg3
  z3 := Try.sizeOf3
  v3 := Try.zeroValue3
  t4 := Try.underlying4
  a4 := Try.isAgg4
  z4 := Try.sizeOf4
  v4 := Try.zeroValue4
  t22 := Try.underlying72
  a22 := Try.isAgg72
  z22 := Try.sizeOf72
  v22 := Try.zeroValue72
  a23 := Try.isAgg74
  z23 := Try.sizeOf74
  t25 := Try.underlying91
  a25 := Try.isAgg91
  z25 := Try.sizeOf91
  v25 := Try.zeroValue91 }
open Go.RowKit Go.Lib Go.Sort in
theorem Try.slices_DeleteFunc {α : Type} [Inhabited α] (enc : α → Value) (hO : OneCell enc) (p : α → Bool) (g : Nat) (lb : Array Value) (eg : ∀ args w, (callFunc g args).run Try.prog w = .ok (.enter g args) w) (zr : α) (v23 : ∀ w, (zeroValue (Try.laysSlH10_f94_ren.t 23)).run Try.prog w = .ok (enc zr) w) (blk off cap : Nat) (d : Array α) (w : World) (hp : PredAt Try.prog g lb enc p w) (hpo : PredOver Try.prog g lb enc p blk off d.size w) (hH : Holds enc w blk off d) (hsz : d.size ≤ 9223372036854775807) (hcap : d.size ≤ cap) :
    Calls Try.prog 94 #[.slice (some ⟨blk, off, none⟩) d.size cap, .func (.func g) #[] lb] w fun e w' => e = .returned (.slice (some ⟨blk, off, none⟩) (d.toList.filter fun x => !p x).length cap) ∧ ∃ q, w' = putRow enc (Sort.ahead w q) blk off ((d.toList.filter fun x => !p x) ++ List.replicate (d.size - (d.toList.filter fun x => !p x).length) zr).toArray := AnyE.slices_DeleteFunc Try.laysSlH10_f94 enc hO p g lb eg zr v23 blk off cap d w hp hpo hH hsz hcap
end Go.Proofs
namespace Go.Proofs.Ytelfalicickelaa.Kit
open Go.Lib
set_option linter.unusedVariables false
def cat8 (b0 b1 b2 b3 b4 b5 b6 b7 : Nat) : Nat := b0 + 256 * (b1 + 256 * (b2 + 256 * (b3 + 256 * (b4 + 256 * (b5 + 256 * (b6 + 256 * b7))))))
theorem and_cat (a m A M : Nat) (ha : a < 256) (hm : m < 256) : (a + 256 * A) &&& (m + 256 * M) = (a &&& m) + 256 * (A &&& M) := by
  have h1 : ((a + 256 * A) &&& (m + 256 * M)) % 2 ^ 8 = (a &&& m) := by
    rw [Nat.and_mod_two_pow, show (a + 256 * A) % 2 ^ 8 = a from by simp only [Nat.reducePow]; omega, show (m + 256 * M) % 2 ^ 8 = m from by simp only [Nat.reducePow]; omega]
  have h2 : ((a + 256 * A) &&& (m + 256 * M)) / 2 ^ 8 = (A &&& M) := by
    rw [Nat.and_div_two_pow, show (a + 256 * A) / 2 ^ 8 = A from by simp only [Nat.reducePow]; omega, show (m + 256 * M) / 2 ^ 8 = M from by simp only [Nat.reducePow]; omega]
  have h3 := Nat.div_add_mod ((a + 256 * A) &&& (m + 256 * M)) (2 ^ 8)
  rw [h1, h2] at h3
  simp only [Nat.reducePow] at h3
  omega
theorem and_cat8 (a0 a1 a2 a3 a4 a5 a6 a7 m0 m1 m2 m3 m4 m5 m6 m7 : Nat) (h0 : a0 < 256) (h1 : a1 < 256) (h2 : a2 < 256) (h3 : a3 < 256) (h4 : a4 < 256) (h5 : a5 < 256) (h6 : a6 < 256)
    (k0 : m0 < 256) (k1 : m1 < 256) (k2 : m2 < 256) (k3 : m3 < 256) (k4 : m4 < 256) (k5 : m5 < 256) (k6 : m6 < 256) :
    cat8 a0 a1 a2 a3 a4 a5 a6 a7 &&& cat8 m0 m1 m2 m3 m4 m5 m6 m7 = cat8 (a0 &&& m0) (a1 &&& m1) (a2 &&& m2) (a3 &&& m3) (a4 &&& m4) (a5 &&& m5) (a6 &&& m6) (a7 &&& m7) := by
  unfold cat8
  rw [and_cat _ _ _ _ h0 k0, and_cat _ _ _ _ h1 k1, and_cat _ _ _ _ h2 k2, and_cat _ _ _ _ h3 k3, and_cat _ _ _ _ h4 k4, and_cat _ _ _ _ h5 k5, and_cat _ _ _ _ h6 k6]
theorem cat8_of (x : Nat) (hx : x < 18446744073709551616) : ∃ b0 b1 b2 b3 b4 b5 b6 b7, b0 < 256 ∧ b1 < 256 ∧ b2 < 256 ∧ b3 < 256 ∧ b4 < 256 ∧ b5 < 256 ∧ b6 < 256 ∧ b7 < 256 ∧ x = cat8 b0 b1 b2 b3 b4 b5 b6 b7 :=
  ⟨x % 256, x / 256 % 256, x / 65536 % 256, x / 16777216 % 256, x / 4294967296 % 256, x / 1099511627776 % 256, x / 281474976710656 % 256, x / 72057594037927936, by omega, by omega, by omega, by omega, by omega, by omega, by omega, by omega, by unfold cat8; omega⟩
theorem cat8_lt (b0 b1 b2 b3 b4 b5 b6 b7 : Nat) (h0 : b0 < 256) (h1 : b1 < 256) (h2 : b2 < 256) (h3 : b3 < 256) (h4 : b4 < 256) (h5 : b5 < 256) (h6 : b6 < 256) (h7 : b7 < 256) : cat8 b0 b1 b2 b3 b4 b5 b6 b7 < 18446744073709551616 := by
  unfold cat8
  omega
theorem cat8_lt68 (b0 b1 b2 b3 b4 b5 b6 b7 : Nat) (h0 : b0 ≤ 68) (h1 : b1 ≤ 68) (h2 : b2 ≤ 68) (h3 : b3 ≤ 68) (h4 : b4 ≤ 68) (h5 : b5 ≤ 68) (h6 : b6 ≤ 68) (h7 : b7 ≤ 68) : cat8 b0 b1 b2 b3 b4 b5 b6 b7 < 9223372036854775808 := by
  unfold cat8
  omega
theorem lt63a {y : Nat} (h : y < 9223372036854775808) : y < 18446744073709551616 := by omega
theorem lt63b {y : Nat} (h : y < 9223372036854775808) : y / 16 + y < 18446744073709551616 := by omega
def g1 (b : Nat) : Nat := (b / 2 &&& 85) + (b &&& 85)
def g2 (b : Nat) : Nat := (b / 4 &&& 51) + (b &&& 51)
def g3 (b : Nat) : Nat := (b / 16 + b) % 16
theorem g_fin : ∀ b : Fin 256, g3 (g2 (g1 b.val)) = popAux 8 b.val ∧ g1 b.val < 256 ∧ g2 (g1 b.val) ≤ 68 ∧ g2 (g1 b.val) % 16 ≤ 4 ∧ popAux 8 b.val ≤ 8 := by decide +kernel
theorem m1_fin : ∀ b : Fin 256, (b.val / 2 + 128 * 0 &&& 85) = (b.val / 2 &&& 85) ∧ (b.val / 2 + 128 * 1 &&& 85) = (b.val / 2 &&& 85) := by decide +kernel
theorem m2_fin : ∀ b : Fin 256, (b.val / 4 + 64 * 0 &&& 51) = (b.val / 4 &&& 51) ∧ (b.val / 4 + 64 * 1 &&& 51) = (b.val / 4 &&& 51) ∧ (b.val / 4 + 64 * 2 &&& 51) = (b.val / 4 &&& 51) ∧ (b.val / 4 + 64 * 3 &&& 51) = (b.val / 4 &&& 51) := by decide +kernel
theorem m1 (b c : Nat) (h : b < 256) : (b / 2 + 128 * (c % 2) &&& 85) = (b / 2 &&& 85) := by
  have hc : c % 2 = 0 ∨ c % 2 = 1 := by omega
  rcases hc with hc | hc <;> rw [hc]
  · exact (m1_fin ⟨b, h⟩).1
  · exact (m1_fin ⟨b, h⟩).2
theorem m2 (b c : Nat) (h : b < 256) : (b / 4 + 64 * (c % 4) &&& 51) = (b / 4 &&& 51) := by
  have hc : c % 4 = 0 ∨ c % 4 = 1 ∨ c % 4 = 2 ∨ c % 4 = 3 := by omega
  rcases hc with hc | hc | hc | hc <;> rw [hc]
  · exact (m2_fin ⟨b, h⟩).1
  · exact (m2_fin ⟨b, h⟩).2.1
  · exact (m2_fin ⟨b, h⟩).2.2.1
  · exact (m2_fin ⟨b, h⟩).2.2.2
theorem stage1 (b0 b1 b2 b3 b4 b5 b6 b7 : Nat) (h0 : b0 < 256) (h1 : b1 < 256) (h2 : b2 < 256) (h3 : b3 < 256) (h4 : b4 < 256) (h5 : b5 < 256) (h6 : b6 < 256) (h7 : b7 < 256) :
    (cat8 b0 b1 b2 b3 b4 b5 b6 b7 / 2 &&& 6148914691236517205) + (cat8 b0 b1 b2 b3 b4 b5 b6 b7 &&& 6148914691236517205) = cat8 (g1 b0) (g1 b1) (g1 b2) (g1 b3) (g1 b4) (g1 b5) (g1 b6) (g1 b7) := by
  have hM : (6148914691236517205 : Nat) = cat8 85 85 85 85 85 85 85 85 := by decide
  have hd : cat8 b0 b1 b2 b3 b4 b5 b6 b7 / 2 = cat8 (b0 / 2 + 128 * (b1 % 2)) (b1 / 2 + 128 * (b2 % 2)) (b2 / 2 + 128 * (b3 % 2)) (b3 / 2 + 128 * (b4 % 2)) (b4 / 2 + 128 * (b5 % 2)) (b5 / 2 + 128 * (b6 % 2)) (b6 / 2 + 128 * (b7 % 2)) (b7 / 2) := by
    unfold cat8
    omega
  rw [hd, hM, and_cat8 _ _ _ _ _ _ _ _ _ _ _ _ _ _ _ _ (by omega) (by omega) (by omega) (by omega) (by omega) (by omega) (by omega) (by omega) (by omega) (by omega) (by omega) (by omega) (by omega) (by omega),
    and_cat8 _ _ _ _ _ _ _ _ _ _ _ _ _ _ _ _ h0 h1 h2 h3 h4 h5 h6 (by omega) (by omega) (by omega) (by omega) (by omega) (by omega) (by omega),
    m1 b0 b1 h0, m1 b1 b2 h1, m1 b2 b3 h2, m1 b3 b4 h3, m1 b4 b5 h4, m1 b5 b6 h5, m1 b6 b7 h6]
  unfold cat8 g1
  omega
theorem stage2 (b0 b1 b2 b3 b4 b5 b6 b7 : Nat) (h0 : b0 < 256) (h1 : b1 < 256) (h2 : b2 < 256) (h3 : b3 < 256) (h4 : b4 < 256) (h5 : b5 < 256) (h6 : b6 < 256) (h7 : b7 < 256) :
    (cat8 b0 b1 b2 b3 b4 b5 b6 b7 / 4 &&& 3689348814741910323) + (cat8 b0 b1 b2 b3 b4 b5 b6 b7 &&& 3689348814741910323) = cat8 (g2 b0) (g2 b1) (g2 b2) (g2 b3) (g2 b4) (g2 b5) (g2 b6) (g2 b7) := by
  have hM : (3689348814741910323 : Nat) = cat8 51 51 51 51 51 51 51 51 := by decide
  have hd : cat8 b0 b1 b2 b3 b4 b5 b6 b7 / 4 = cat8 (b0 / 4 + 64 * (b1 % 4)) (b1 / 4 + 64 * (b2 % 4)) (b2 / 4 + 64 * (b3 % 4)) (b3 / 4 + 64 * (b4 % 4)) (b4 / 4 + 64 * (b5 % 4)) (b5 / 4 + 64 * (b6 % 4)) (b6 / 4 + 64 * (b7 % 4)) (b7 / 4) := by
    unfold cat8
    omega
  rw [hd, hM, and_cat8 _ _ _ _ _ _ _ _ _ _ _ _ _ _ _ _ (by omega) (by omega) (by omega) (by omega) (by omega) (by omega) (by omega) (by omega) (by omega) (by omega) (by omega) (by omega) (by omega) (by omega),
    and_cat8 _ _ _ _ _ _ _ _ _ _ _ _ _ _ _ _ h0 h1 h2 h3 h4 h5 h6 (by omega) (by omega) (by omega) (by omega) (by omega) (by omega) (by omega),
    m2 b0 b1 h0, m2 b1 b2 h1, m2 b2 b3 h2, m2 b3 b4 h3, m2 b4 b5 h4, m2 b5 b6 h5, m2 b6 b7 h6]
  unfold cat8 g2
  omega
theorem and15 (x : Nat) : x &&& 15 = x % 16 := Nat.and_two_pow_sub_one_eq_mod x 4
theorem stage3 (b0 b1 b2 b3 b4 b5 b6 b7 : Nat) (h0 : b0 ≤ 68) (h1 : b1 ≤ 68) (h2 : b2 ≤ 68) (h3 : b3 ≤ 68) (h4 : b4 ≤ 68) (h5 : b5 ≤ 68) (h6 : b6 ≤ 68) (h7 : b7 ≤ 68)
    (k1 : b1 % 16 ≤ 4) (k2 : b2 % 16 ≤ 4) (k3 : b3 % 16 ≤ 4) (k4 : b4 % 16 ≤ 4) (k5 : b5 % 16 ≤ 4) (k6 : b6 % 16 ≤ 4) (k7 : b7 % 16 ≤ 4) :
    (cat8 b0 b1 b2 b3 b4 b5 b6 b7 / 16 + cat8 b0 b1 b2 b3 b4 b5 b6 b7) &&& 1085102592571150095 = cat8 (g3 b0) (g3 b1) (g3 b2) (g3 b3) (g3 b4) (g3 b5) (g3 b6) (g3 b7) := by
  have hM : (1085102592571150095 : Nat) = cat8 15 15 15 15 15 15 15 15 := by decide
  have hd : cat8 b0 b1 b2 b3 b4 b5 b6 b7 / 16 + cat8 b0 b1 b2 b3 b4 b5 b6 b7 = cat8 (b0 / 16 + 16 * (b1 % 16) + b0) (b1 / 16 + 16 * (b2 % 16) + b1) (b2 / 16 + 16 * (b3 % 16) + b2) (b3 / 16 + 16 * (b4 % 16) + b3) (b4 / 16 + 16 * (b5 % 16) + b4) (b5 / 16 + 16 * (b6 % 16) + b5) (b6 / 16 + 16 * (b7 % 16) + b6) (b7 / 16 + b7) := by
    unfold cat8
    omega
  rw [hd, hM, and_cat8 _ _ _ _ _ _ _ _ _ _ _ _ _ _ _ _ (by omega) (by omega) (by omega) (by omega) (by omega) (by omega) (by omega) (by omega) (by omega) (by omega) (by omega) (by omega) (by omega) (by omega)]
  simp only [and15]
  unfold cat8 g3
  omega
theorem popAux_split (k : Nat) : ∀ (j x y : Nat), x < 2 ^ k → popAux (k + j) (x + 2 ^ k * y) = popAux k x + popAux j y := by
  induction k with
  | zero =>
    intro j x y hx
    have : x = 0 := by simp at hx; exact hx
    subst this
    simp [popAux]
  | succ k ih =>
    intro j x y hx
    rw [show k + 1 + j = (k + j) + 1 from by omega]
    simp only [popAux]
    have h1 : (x + 2 ^ (k + 1) * y) % 2 = x % 2 := by rw [Nat.pow_succ, Nat.mul_comm (2 ^ k) 2, Nat.mul_assoc]; omega
    have h2 : (x + 2 ^ (k + 1) * y) / 2 = x / 2 + 2 ^ k * y := by rw [Nat.pow_succ, Nat.mul_comm (2 ^ k) 2, Nat.mul_assoc]; omega
    rw [h1, h2, ih j (x / 2) y (by rw [Nat.pow_succ] at hx; omega)]
    omega
theorem pop_cat8 (b0 b1 b2 b3 b4 b5 b6 b7 : Nat) (h0 : b0 < 256) (h1 : b1 < 256) (h2 : b2 < 256) (h3 : b3 < 256) (h4 : b4 < 256) (h5 : b5 < 256) (h6 : b6 < 256) :
    onesCount (cat8 b0 b1 b2 b3 b4 b5 b6 b7) = popAux 8 b0 + (popAux 8 b1 + (popAux 8 b2 + (popAux 8 b3 + (popAux 8 b4 + (popAux 8 b5 + (popAux 8 b6 + popAux 8 b7)))))) := by
  unfold onesCount cat8
  rw [show (64 : Nat) = 8 + 56 from rfl, show ∀ t : Nat, 256 * t = 2 ^ 8 * t from fun _ => rfl, popAux_split 8 56 _ _ (by simpa using h0),
    show (56 : Nat) = 8 + 48 from rfl, popAux_split 8 48 _ _ (by simpa using h1), show (48 : Nat) = 8 + 40 from rfl, popAux_split 8 40 _ _ (by simpa using h2),
    show (40 : Nat) = 8 + 32 from rfl, popAux_split 8 32 _ _ (by simpa using h3), show (32 : Nat) = 8 + 24 from rfl, popAux_split 8 24 _ _ (by simpa using h4),
    show (24 : Nat) = 8 + 16 from rfl, popAux_split 8 16 _ _ (by simpa using h5), show (16 : Nat) = 8 + 8 from rfl, popAux_split 8 8 _ _ (by simpa using h6)]
theorem stage4 (p0 p1 p2 p3 p4 p5 p6 p7 : Nat) (h0 : p0 ≤ 8) (h1 : p1 ≤ 8) (h2 : p2 ≤ 8) (h3 : p3 ≤ 8) (h4 : p4 ≤ 8) (h5 : p5 ≤ 8) (h6 : p6 ≤ 8) (h7 : p7 ≤ 8) (x y z : Nat)
    (hx : x = cat8 p0 p1 p2 p3 p4 p5 p6 p7 + cat8 p0 p1 p2 p3 p4 p5 p6 p7 / 256) (hy : y = x + x / 65536) (hz : z = y + y / 4294967296) :
    z % 128 = p0 + (p1 + (p2 + (p3 + (p4 + (p5 + (p6 + p7)))))) ∧ x < 18446744073709551616 ∧ y < 18446744073709551616 ∧ z < 18446744073709551616 := by
  have e1 : x = cat8 (p0 + p1) (p1 + p2) (p2 + p3) (p3 + p4) (p4 + p5) (p5 + p6) (p6 + p7) p7 := by rw [hx]; unfold cat8; omega
  have e2 : y = cat8 (p0 + p1 + (p2 + p3)) (p1 + p2 + (p3 + p4)) (p2 + p3 + (p4 + p5)) (p3 + p4 + (p5 + p6)) (p4 + p5 + (p6 + p7)) (p5 + p6 + p7) (p6 + p7) p7 := by rw [hy, e1]; unfold cat8; omega
  have e3 : z = cat8 (p0 + p1 + (p2 + p3) + (p4 + p5 + (p6 + p7))) (p1 + p2 + (p3 + p4) + (p5 + p6 + p7)) (p2 + p3 + (p4 + p5) + (p6 + p7)) (p3 + p4 + (p5 + p6) + p7) (p4 + p5 + (p6 + p7)) (p5 + p6 + p7) (p6 + p7) p7 := by rw [hz, e2]; unfold cat8; omega
  rw [e1, e2, e3]
  unfold cat8
  omega
theorem swar_cat (b0 b1 b2 b3 b4 b5 b6 b7 : Nat) (h0 : b0 < 256) (h1 : b1 < 256) (h2 : b2 < 256) (h3 : b3 < 256) (h4 : b4 < 256) (h5 : b5 < 256) (h6 : b6 < 256) (h7 : b7 < 256) (x y1 y2 y3 y4 y5 y6 : Nat)
    (ex : x = cat8 b0 b1 b2 b3 b4 b5 b6 b7)
    (e1 : y1 = (x / 2 &&& 6148914691236517205) + (x &&& 6148914691236517205)) (e2 : y2 = (y1 / 4 &&& 3689348814741910323) + (y1 &&& 3689348814741910323))
    (e3 : y3 = (y2 / 16 + y2) &&& 1085102592571150095) (e4 : y4 = y3 + y3 / 256) (e5 : y5 = y4 + y4 / 65536) (e6 : y6 = y5 + y5 / 4294967296) :
    y6 % 128 = onesCount x ∧ y1 < 18446744073709551616 ∧ y2 < 18446744073709551616 ∧ y2 / 16 + y2 < 18446744073709551616 ∧ y4 < 18446744073709551616 ∧ y5 < 18446744073709551616 ∧ y6 < 18446744073709551616 := by
  obtain ⟨p0, q0, r0, s0, t0⟩ := g_fin ⟨b0, h0⟩
  obtain ⟨p1, q1, r1, s1, t1⟩ := g_fin ⟨b1, h1⟩
  obtain ⟨p2, q2, r2, s2, t2⟩ := g_fin ⟨b2, h2⟩
  obtain ⟨p3, q3, r3, s3, t3⟩ := g_fin ⟨b3, h3⟩
  obtain ⟨p4, q4, r4, s4, t4⟩ := g_fin ⟨b4, h4⟩
  obtain ⟨p5, q5, r5, s5, t5⟩ := g_fin ⟨b5, h5⟩
  obtain ⟨p6, q6, r6, s6, t6⟩ := g_fin ⟨b6, h6⟩
  obtain ⟨p7, q7, r7, s7, t7⟩ := g_fin ⟨b7, h7⟩
  have k1 : y1 = cat8 (g1 b0) (g1 b1) (g1 b2) (g1 b3) (g1 b4) (g1 b5) (g1 b6) (g1 b7) := by rw [e1, ex]; exact stage1 _ _ _ _ _ _ _ _ h0 h1 h2 h3 h4 h5 h6 h7
  have k2 : y2 = cat8 (g2 (g1 b0)) (g2 (g1 b1)) (g2 (g1 b2)) (g2 (g1 b3)) (g2 (g1 b4)) (g2 (g1 b5)) (g2 (g1 b6)) (g2 (g1 b7)) := by rw [e2, k1]; exact stage2 _ _ _ _ _ _ _ _ q0 q1 q2 q3 q4 q5 q6 q7
  have k3 : y3 = cat8 (g3 (g2 (g1 b0))) (g3 (g2 (g1 b1))) (g3 (g2 (g1 b2))) (g3 (g2 (g1 b3))) (g3 (g2 (g1 b4))) (g3 (g2 (g1 b5))) (g3 (g2 (g1 b6))) (g3 (g2 (g1 b7))) := by rw [e3, k2]; exact stage3 _ _ _ _ _ _ _ _ r0 r1 r2 r3 r4 r5 r6 r7 s1 s2 s3 s4 s5 s6 s7
  clear e1 e2 e3
  generalize g1 b0 = c0 at *
  generalize g1 b1 = c1 at *
  generalize g1 b2 = c2 at *
  generalize g1 b3 = c3 at *
  generalize g1 b4 = c4 at *
  generalize g1 b5 = c5 at *
  generalize g1 b6 = c6 at *
  generalize g1 b7 = c7 at *
  rw [p0, p1, p2, p3, p4, p5, p6, p7] at k3
  generalize g2 c0 = d0 at *
  generalize g2 c1 = d1 at *
  generalize g2 c2 = d2 at *
  generalize g2 c3 = d3 at *
  generalize g2 c4 = d4 at *
  generalize g2 c5 = d5 at *
  generalize g2 c6 = d6 at *
  generalize g2 c7 = d7 at *
  clear p0 p1 p2 p3 p4 p5 p6 p7
  have hp := pop_cat8 b0 b1 b2 b3 b4 b5 b6 b7 h0 h1 h2 h3 h4 h5 h6
  rw [← ex] at hp
  rw [hp]
  generalize popAux 8 b0 = u0 at *
  generalize popAux 8 b1 = u1 at *
  generalize popAux 8 b2 = u2 at *
  generalize popAux 8 b3 = u3 at *
  generalize popAux 8 b4 = u4 at *
  generalize popAux 8 b5 = u5 at *
  generalize popAux 8 b6 = u6 at *
  generalize popAux 8 b7 = u7 at *
  obtain ⟨f1, f2, f3, f4⟩ := stage4 u0 u1 u2 u3 u4 u5 u6 u7 t0 t1 t2 t3 t4 t5 t6 t7 y4 y5 y6 (by rw [e4, k3]) e5 e6
  clear e4 e5 e6 k3
  refine ⟨f1, ?_, ?_, ?_, f2, f3, f4⟩
  · rw [k1]; exact cat8_lt _ _ _ _ _ _ _ _ q0 q1 q2 q3 q4 q5 q6 q7
  · have hz := cat8_lt68 d0 d1 d2 d3 d4 d5 d6 d7 r0 r1 r2 r3 r4 r5 r6 r7
    rw [← k2] at hz
    exact lt63a hz
  · have hz := cat8_lt68 d0 d1 d2 d3 d4 d5 d6 d7 r0 r1 r2 r3 r4 r5 r6 r7
    rw [← k2] at hz
    exact lt63b hz
theorem swar (x : Nat) (hx : x < 18446744073709551616) (y1 y2 y3 y4 y5 y6 : Nat)
    (e1 : y1 = (x / 2 &&& 6148914691236517205) + (x &&& 6148914691236517205)) (e2 : y2 = (y1 / 4 &&& 3689348814741910323) + (y1 &&& 3689348814741910323))
    (e3 : y3 = (y2 / 16 + y2) &&& 1085102592571150095) (e4 : y4 = y3 + y3 / 256) (e5 : y5 = y4 + y4 / 65536) (e6 : y6 = y5 + y5 / 4294967296) :
    y6 % 128 = onesCount x ∧ y1 < 18446744073709551616 ∧ y2 < 18446744073709551616 ∧ y2 / 16 + y2 < 18446744073709551616 ∧ y4 < 18446744073709551616 ∧ y5 < 18446744073709551616 ∧ y6 < 18446744073709551616 := by
  obtain ⟨b0, b1, b2, b3, b4, b5, b6, b7, h0, h1, h2, h3, h4, h5, h6, h7, ex⟩ := cat8_of x hx
  exact swar_cat b0 b1 b2 b3 b4 b5 b6 b7 h0 h1 h2 h3 h4 h5 h6 h7 x y1 y2 y3 y4 y5 y6 ex e1 e2 e3 e4 e5 e6
end Go.Proofs.Ytelfalicickelaa.Kit
namespace Go.Proofs.Ytelfalicickelaa.P
open Go.RowKit Go.Proofs.YtelfalicickelaaW.PrintWords Go.Proofs.YtelfalicickelaaW.PrintLast Go.Proofs.YtelfalicickelaaW.PrintMore
open Go.Proofs.Ytelfalicickelaa.Kit
theorem u64w {x : Nat} (h : x < 18446744073709551616) : IntKind.u64.wrap (x : Int) = (x : Int) := by
  simp [IntKind.wrap, IntKind.bits, IntKind.signed]
  omega
theorem andu64 (x y : Nat) (hx : x < 18446744073709551616) (hy : y < 18446744073709551616) : Go.bits .and .u64 (x : Int) (y : Int) = ((x &&& y : Nat) : Int) := by
  have hw : ∀ n : Int, 0 ≤ n → n < 2 ^ 64 → IntKind.u64.wrap n = n := fun n h0 h1 => by
    obtain ⟨m, rfl⟩ := Int.eq_ofNat_of_zero_le h0
    exact u64w (by have : (m : Int) < 18446744073709551616 := by simpa using h1
                   omega)
  exact (bits_nat .u64 64 (by decide) hw x y (by simpa using hx) (by simpa using hy)).1
theorem ediv_lit (m x : Nat) (xi : Int) (h : xi = (x : Int)) : (m : Int) / xi = ((m / x : Nat) : Int) := by
  rw [h]
  exact (Int.natCast_ediv m x).symm
theorem fstep (x z s m : Nat) (si mi : Int) (hs : si = (s : Int)) (hm : mi = (m : Int)) (hx : x < 18446744073709551616) (hm64 : m < 18446744073709551616) (hz : (x / s &&& m) + (x &&& m) = z) (l : z < 18446744073709551616) :
    IntKind.u64.wrap ((Go.bits .and .u64 ((x : Int) / si) mi) + (Go.bits .and .u64 (x : Int) mi)) = (z : Int) := by
  rw [ediv_lit x s si hs, hm, andu64 _ _ (Nat.lt_of_le_of_lt (Nat.div_le_self x s) hx) hm64, andu64 _ _ hx hm64, ← Int.natCast_add, hz, u64w l]
theorem gstep (x z s : Nat) (si : Int) (hs : si = (s : Int)) (hz : x + x / s = z) (l : z < 18446744073709551616) :
    IntKind.u64.wrap ((x : Int) + (x : Int) / si) = (z : Int) := by
  rw [ediv_lit x s si hs, ← Int.natCast_add, hz, u64w l]
theorem gstep' (x z s : Nat) (si : Int) (hs : si = (s : Int)) (hz : x / s + x = z) (l : z < 18446744073709551616) :
    IntKind.u64.wrap ((x : Int) / si + (x : Int)) = (z : Int) := by
  rw [ediv_lit x s si hs, ← Int.natCast_add, hz, u64w l]
theorem and127 (z : Nat) : Go.bits .and .i64 (wrap64 (z : Int)) 127 = ((z % 128 : Nat) : Int) := by
  have ho : BitVec.ofInt 64 (wrap64 (z : Int)) = BitVec.ofNat 64 z := by
    apply BitVec.eq_of_toNat_eq
    rw [BitVec.toNat_ofInt, BitVec.toNat_ofNat]
    unfold wrap64
    simp only [Nat.reducePow]
    omega
  have h127 : (BitVec.ofInt 64 127).toNat = 127 := by decide
  show IntKind.i64.wrap ((BitVec.ofInt 64 (wrap64 (z : Int)) &&& BitVec.ofInt 64 127).toNat : Int) = _
  rw [BitVec.toNat_and, ho, h127, BitVec.toNat_ofNat]
  have ha : z % 2 ^ 64 &&& 127 = z % 128 := by
    have := Nat.and_two_pow_sub_one_eq_mod (z % 2 ^ 64) 7
    simp only [Nat.reducePow, Nat.reduceSub] at this ⊢
    rw [this]
    omega
  rw [ha, IntKind.wrap_i64]
  omega
theorem ones_formula (n : Nat) (hn : n < 18446744073709551616) (y1 y2 y3 y4 y5 y6 : Int)
    (e1 : y1 = IntKind.u64.wrap ((Go.bits .and .u64 ((n : Int) / 2) 6148914691236517205) + (Go.bits .and .u64 (n : Int) 6148914691236517205)))
    (e2 : y2 = IntKind.u64.wrap ((Go.bits .and .u64 (y1 / 4) 3689348814741910323) + (Go.bits .and .u64 y1 3689348814741910323)))
    (e3 : y3 = Go.bits .and .u64 (IntKind.u64.wrap (y2 / 16 + y2)) 1085102592571150095)
    (e4 : y4 = IntKind.u64.wrap (y3 + y3 / 256)) (e5 : y5 = IntKind.u64.wrap (y4 + y4 / 65536)) (e6 : y6 = IntKind.u64.wrap (y5 + y5 / 4294967296)) :
    Go.bits .and .i64 (wrap64 y6) 127 = (Lib.onesCount n : Int) := by
  obtain ⟨z1, h1⟩ : ∃ z, (n / 2 &&& 6148914691236517205) + (n &&& 6148914691236517205) = z := ⟨_, rfl⟩
  obtain ⟨z2, h2⟩ : ∃ z, (z1 / 4 &&& 3689348814741910323) + (z1 &&& 3689348814741910323) = z := ⟨_, rfl⟩
  obtain ⟨z3, h3⟩ : ∃ z, (z2 / 16 + z2) &&& 1085102592571150095 = z := ⟨_, rfl⟩
  obtain ⟨z4, h4⟩ : ∃ z, z3 + z3 / 256 = z := ⟨_, rfl⟩
  obtain ⟨z5, h5⟩ : ∃ z, z4 + z4 / 65536 = z := ⟨_, rfl⟩
  obtain ⟨z6, h6⟩ : ∃ z, z5 + z5 / 4294967296 = z := ⟨_, rfl⟩
  obtain ⟨s, l1, l2, l2', l4, l5, l6⟩ := swar n hn z1 z2 z3 z4 z5 z6 h1.symm h2.symm h3.symm h4.symm h5.symm h6.symm
  have d1 : y1 = (z1 : Int) := e1.trans (fstep n z1 2 6148914691236517205 2 6148914691236517205 rfl rfl hn (by decide) h1 l1)
  rw [d1] at e2
  have d2 : y2 = (z2 : Int) := e2.trans (fstep z1 z2 4 3689348814741910323 4 3689348814741910323 rfl rfl l1 (by decide) h2 l2)
  rw [d2, gstep' z2 _ 16 16 rfl rfl l2'] at e3
  have d3 : y3 = (z3 : Int) := by
    rw [e3, show (1085102592571150095 : Int) = ((1085102592571150095 : Nat) : Int) from rfl, andu64 _ _ l2' (by decide), h3]
  rw [d3] at e4
  have d4 : y4 = (z4 : Int) := e4.trans (gstep z3 z4 256 256 rfl h4 l4)
  rw [d4] at e5
  have d5 : y5 = (z5 : Int) := e5.trans (gstep z4 z5 65536 65536 rfl h5 l5)
  rw [d5] at e6
  have d6 : y6 = (z6 : Int) := e6.trans (gstep z5 z6 4294967296 4294967296 rfl h6 l6)
  rw [d6, and127, s]
theorem ones_le (n : Nat) : Lib.onesCount n ≤ 64 := by
  have : ∀ k x, Lib.popAux k x ≤ k := by
    intro k
    induction k with
    | zero => intro x; exact Nat.le_refl _
    | succ k ih => intro x; simp only [Lib.popAux]; have := ih (x / 2); omega
  exact this 64 n
def bits_OnesCount64.f (a0 : Int) : Option Int := if 0 ≤ a0 ∧ a0 ≤ 18446744073709551615 then some (Lib.onesCount a0.toNat : Int) else none
set_option maxHeartbeats 8000000 in
set_option maxRecDepth 100000 in
theorem bits_OnesCount64.calls (a0 : Int) (r : Int) (w : World) (h : bits_OnesCount64.f a0 = some r) :
    Calls Try.prog 99 #[.int .u64 a0] w fun e w' => e = .returned (.int .i64 r) ∧ Drawn0 w w' := by
  unfold bits_OnesCount64.f at h
  split at h
  case isFalse => cases h
  rename_i hb
  injection h with h
  have hf := ones_formula a0.toNat (by omega) _ _ _ _ _ _ rfl rfl rfl rfl rfl rfl
  rw [h, Int.toNat_of_nonneg hb.1] at hf
  have HF := Aside0.mk hf
  clear hf h hb
  go_enter Try.func99, Try.ntmps99
  go_wp2
  go_ret
  exact ⟨by have hz_ := HF.out; first | (subst hz_; rfl) | (rw [← hz_]; rfl) | (rw [← hz_]; simp), by repeat (first | exact Drawn0.refl _ | apply Drawn0.step)⟩
end Go.Proofs.Ytelfalicickelaa.P
set_option linter.unusedSimpArgs false
set_option linter.unusedVariables false
namespace Go.Proofs.Ytelfalicickelaa.P
open Go.Lib Go.RowKit Go.Proofs.YtelfalicickelaaW.PrintWords Go.Proofs.YtelfalicickelaaW.PrintLast Go.Proofs.YtelfalicickelaaW.PrintMore Go.Proofs.Ytelfalicickelaa.Kit
def nI (l : List Nat) : List Int := l.map fun (x : Nat) => (x : Int)
theorem nI_length (l : List Nat) : (nI l).length = l.length := List.length_map ..
theorem rd_nI (l : List Nat) (i : Nat) : rd (nI l) (i : Int) = (l.getD i 0 : Int) := by
  unfold rd nI
  rw [Int.toNat_natCast]
  by_cases h : i < l.length
  · simp [List.getD_eq_getElem?_getD, h]
  · simp [List.getD_eq_getElem?_getD, h]
def W64 (l : List Nat) : Prop := ∀ i, l.getD i 0 < 18446744073709551616
theorem cell_new (w : World) (cs : Array Value) (t : TypeId) (i : Nat) {v : Value} (h : cs[i]? = some v) : (w.alloc (.cells cs t)).cell? ⟨w.heap.size, i, none⟩ = some v := by
  unfold World.cell?
  rw [heap_alloc_new]
  exact h
theorem oru64 (x y : Nat) (hx : x < 18446744073709551616) (hy : y < 18446744073709551616) : Go.bits .or .u64 (x : Int) (y : Int) = ((x ||| y : Nat) : Int) := by
  have hw : ∀ n : Int, 0 ≤ n → n < 2 ^ 64 → IntKind.u64.wrap n = n := fun n h0 h1 => by
    obtain ⟨m, rfl⟩ := Int.eq_ofNat_of_zero_le h0
    exact u64w (by have : (m : Int) < 18446744073709551616 := by simpa using h1
                   omega)
  exact (bits_nat .u64 64 (by decide) hw x y (by simpa using hx) (by simpa using hy)).2
theorem xoru64 (x y : Nat) (hx : x < 18446744073709551616) (hy : y < 18446744073709551616) : Go.bits .xor .u64 (x : Int) (y : Int) = ((x ^^^ y : Nat) : Int) := by
  have hx' : x % 2 ^ 64 = x := Nat.mod_eq_of_lt (by simpa using hx)
  have hy' : y % 2 ^ 64 = y := Nat.mod_eq_of_lt (by simpa using hy)
  have hb : IntKind.u64.bits = 64 := rfl
  have hlt : x ^^^ y < 2 ^ 64 := Nat.xor_lt_two_pow (by simpa using hx) (by simpa using hy)
  have hlt' : x ^^^ y < 18446744073709551616 := by simpa using hlt
  simp only [Go.bits, hb, BitVec.ofInt_natCast, BitVec.toNat_xor, BitVec.toNat_ofNat, hx', hy']
  exact u64w hlt'
theorem notu64 (x : Nat) (hx : x < 18446744073709551616) : Go.bits .xor .u64 IntKind.u64.max (x : Int) = ((18446744073709551615 ^^^ x : Nat) : Int) := xoru64 18446744073709551615 x (by decide) hx
theorem and_lt64 {x y : Nat} (hx : x < 18446744073709551616) (hy : y < 18446744073709551616) : x &&& y < 18446744073709551616 := Nat.lt_of_le_of_lt Nat.and_le_left hx
theorem or_lt64 {x y : Nat} (hx : x < 18446744073709551616) (hy : y < 18446744073709551616) : x ||| y < 18446744073709551616 := by
  have := Nat.or_lt_two_pow (n := 64) (x := x) (y := y) (by simpa using hx) (by simpa using hy)
  simpa using this
set_option maxHeartbeats 4000000
set_option maxRecDepth 100000
theorem and_out (a b : Nat) (A : Option Addr) (c : Nat) (l : List Nat) (w : World) (hr : Kd.C (Kd.int .u64) w A (nI l).length (nI l)) (h64 : W64 l) (ha : a < l.length) (hb : b < l.length) :
    Calls Try.prog 118 #[.agg #[.int .i64 (a : Int), .int .i64 (b : Int)], .slice A (nI l).length c] w fun e w' => e = .returned (.int .u64 ((l.getD a 0 &&& l.getD b 0 : Nat) : Int)) ∧ Below w.heap.size w w' := by
  have HB := Aside0.mk (Below.refl w.heap.size w)
  have hv := andu64 (l.getD a 0) (l.getD b 0) (h64 a) (h64 b)
  have hla : a < (nI l).length := by rw [nI_length]; exact ha
  have hlb : b < (nI l).length := by rw [nI_length]; exact hb
  obtain ⟨ad, e1, hx⟩ := Kd.at_int hr (a : Int) (by omega) (by omega)
  subst e1
  obtain ⟨ad', e2, hy⟩ := Kd.at_int hr (b : Int) (by omega) (by omega)
  injection e2 with e2
  subst e2
  rw [rd_nI, Int.toNat_natCast] at hx hy
  have q1 := eq_true hla
  have q2 := eq_true hlb
  have q3 := eq_true (show (a : Int) < ((nI l).length : Int) by omega)
  have q4 := eq_true (show (b : Int) < ((nI l).length : Int) by omega)
  generalize l.getD a 0 = x at *
  generalize l.getD b 0 = y at *
  generalize (nI l).length = n at *
  have HV := Aside0.mk hv
  clear hr h64 ha hb hla hlb hv
  go_enter Try.func118, Try.ntmps118
  go_wp2
  have HX := Aside0.mk (show Below w.heap.size w (w.alloc (.cells #[.int .i64 (a : Int), .int .i64 (b : Int)] 122)) from below_alloc HB.out _)
  have hc0 : (w.alloc (.cells #[.int .i64 (a : Int), .int .i64 (b : Int)] 122)).cell? ⟨w.heap.size, 0, none⟩ = some (.int .i64 (a : Int)) := cell_new _ _ _ _ rfl
  have hc1 : (w.alloc (.cells #[.int .i64 (a : Int), .int .i64 (b : Int)] 122)).cell? ⟨w.heap.size, 1, none⟩ = some (.int .i64 (b : Int)) := cell_new _ _ _ _ rfl
  replace hx := pw_cell_below HX.out hx
  replace hy := pw_cell_below HX.out hy
  generalize (w.alloc (.cells #[.int .i64 (a : Int), .int .i64 (b : Int)] 122)) = w1 at *
  go_quiet (fail)
  go_wp2
  go_ret
  exact ⟨by rw [← HV.out]; rfl, by repeat (first | exact HX.out | apply pw_below_drewN | apply below_drew1)⟩
theorem or_out (a b : Nat) (A : Option Addr) (c : Nat) (l : List Nat) (w : World) (hr : Kd.C (Kd.int .u64) w A (nI l).length (nI l)) (h64 : W64 l) (ha : a < l.length) (hb : b < l.length) :
    Calls Try.prog 119 #[.agg #[.int .i64 (a : Int), .int .i64 (b : Int)], .slice A (nI l).length c] w fun e w' => e = .returned (.int .u64 ((l.getD a 0 ||| l.getD b 0 : Nat) : Int)) ∧ Below w.heap.size w w' := by
  have HB := Aside0.mk (Below.refl w.heap.size w)
  have hv := oru64 (l.getD a 0) (l.getD b 0) (h64 a) (h64 b)
  have hla : a < (nI l).length := by rw [nI_length]; exact ha
  have hlb : b < (nI l).length := by rw [nI_length]; exact hb
  obtain ⟨ad, e1, hx⟩ := Kd.at_int hr (a : Int) (by omega) (by omega)
  subst e1
  obtain ⟨ad', e2, hy⟩ := Kd.at_int hr (b : Int) (by omega) (by omega)
  injection e2 with e2
  subst e2
  rw [rd_nI, Int.toNat_natCast] at hx hy
  have q1 := eq_true hla
  have q2 := eq_true hlb
  have q3 := eq_true (show (a : Int) < ((nI l).length : Int) by omega)
  have q4 := eq_true (show (b : Int) < ((nI l).length : Int) by omega)
  generalize l.getD a 0 = x at *
  generalize l.getD b 0 = y at *
  generalize (nI l).length = n at *
  have HV := Aside0.mk hv
  clear hr h64 ha hb hla hlb hv
  go_enter Try.func119, Try.ntmps119
  go_wp2
  have HX := Aside0.mk (show Below w.heap.size w (w.alloc (.cells #[.int .i64 (a : Int), .int .i64 (b : Int)] 123)) from below_alloc HB.out _)
  have hc0 : (w.alloc (.cells #[.int .i64 (a : Int), .int .i64 (b : Int)] 123)).cell? ⟨w.heap.size, 0, none⟩ = some (.int .i64 (a : Int)) := cell_new _ _ _ _ rfl
  have hc1 : (w.alloc (.cells #[.int .i64 (a : Int), .int .i64 (b : Int)] 123)).cell? ⟨w.heap.size, 1, none⟩ = some (.int .i64 (b : Int)) := cell_new _ _ _ _ rfl
  replace hx := pw_cell_below HX.out hx
  replace hy := pw_cell_below HX.out hy
  generalize (w.alloc (.cells #[.int .i64 (a : Int), .int .i64 (b : Int)] 123)) = w1 at *
  go_quiet (fail)
  go_wp2
  go_ret
  exact ⟨by rw [← HV.out]; rfl, by repeat (first | exact HX.out | apply pw_below_drewN | apply below_drew1)⟩
theorem xor_out (a b : Nat) (A : Option Addr) (c : Nat) (l : List Nat) (w : World) (hr : Kd.C (Kd.int .u64) w A (nI l).length (nI l)) (h64 : W64 l) (ha : a < l.length) (hb : b < l.length) :
    Calls Try.prog 120 #[.agg #[.int .i64 (a : Int), .int .i64 (b : Int)], .slice A (nI l).length c] w fun e w' => e = .returned (.int .u64 ((l.getD a 0 ^^^ l.getD b 0 : Nat) : Int)) ∧ Below w.heap.size w w' := by
  have HB := Aside0.mk (Below.refl w.heap.size w)
  have hv := xoru64 (l.getD a 0) (l.getD b 0) (h64 a) (h64 b)
  have hla : a < (nI l).length := by rw [nI_length]; exact ha
  have hlb : b < (nI l).length := by rw [nI_length]; exact hb
  obtain ⟨ad, e1, hx⟩ := Kd.at_int hr (a : Int) (by omega) (by omega)
  subst e1
  obtain ⟨ad', e2, hy⟩ := Kd.at_int hr (b : Int) (by omega) (by omega)
  injection e2 with e2
  subst e2
  rw [rd_nI, Int.toNat_natCast] at hx hy
  have q1 := eq_true hla
  have q2 := eq_true hlb
  have q3 := eq_true (show (a : Int) < ((nI l).length : Int) by omega)
  have q4 := eq_true (show (b : Int) < ((nI l).length : Int) by omega)
  generalize l.getD a 0 = x at *
  generalize l.getD b 0 = y at *
  generalize (nI l).length = n at *
  have HV := Aside0.mk hv
  clear hr h64 ha hb hla hlb hv
  go_enter Try.func120, Try.ntmps120
  go_wp2
  have HX := Aside0.mk (show Below w.heap.size w (w.alloc (.cells #[.int .i64 (a : Int), .int .i64 (b : Int)] 124)) from below_alloc HB.out _)
  have hc0 : (w.alloc (.cells #[.int .i64 (a : Int), .int .i64 (b : Int)] 124)).cell? ⟨w.heap.size, 0, none⟩ = some (.int .i64 (a : Int)) := cell_new _ _ _ _ rfl
  have hc1 : (w.alloc (.cells #[.int .i64 (a : Int), .int .i64 (b : Int)] 124)).cell? ⟨w.heap.size, 1, none⟩ = some (.int .i64 (b : Int)) := cell_new _ _ _ _ rfl
  replace hx := pw_cell_below HX.out hx
  replace hy := pw_cell_below HX.out hy
  generalize (w.alloc (.cells #[.int .i64 (a : Int), .int .i64 (b : Int)] 124)) = w1 at *
  go_quiet (fail)
  go_wp2
  go_ret
  exact ⟨by rw [← HV.out]; rfl, by repeat (first | exact HX.out | apply pw_below_drewN | apply below_drew1)⟩
theorem not_out (a : Nat) (A : Option Addr) (c : Nat) (l : List Nat) (w : World) (hr : Kd.C (Kd.int .u64) w A (nI l).length (nI l)) (h64 : W64 l) (ha : a < l.length) :
    Calls Try.prog 117 #[.agg #[.int .i64 (a : Int)], .slice A (nI l).length c] w fun e w' => e = .returned (.int .u64 ((18446744073709551615 ^^^ l.getD a 0 : Nat) : Int)) ∧ Below w.heap.size w w' := by
  have HB := Aside0.mk (Below.refl w.heap.size w)
  have hla : a < (nI l).length := by rw [nI_length]; exact ha
  obtain ⟨ad, e1, hx⟩ := Kd.at_int hr (a : Int) (by omega) (by omega)
  subst e1
  rw [rd_nI, Int.toNat_natCast] at hx
  have H64 := Aside0.mk (h64 a)
  have q1 := eq_true hla
  have q3 := eq_true (show (a : Int) < ((nI l).length : Int) by omega)
  generalize l.getD a 0 = x at *
  generalize (nI l).length = n at *
  replace hx := pw_cell_below (show Below w.heap.size w (w.alloc (.cells #[.int .i64 (a : Int)] 118)) from below_alloc HB.out _) hx
  clear hr h64 ha hla
  go_enter Try.func117, Try.ntmps117
  go_wp2
  go_ret
  exact ⟨by rw [← notu64 x H64.out]; rfl, below_alloc HB.out _⟩
theorem opp_and_out (a b : Nat) (A : Option Addr) (c : Nat) (l : List Nat) (w : World) (hr : Kd.C (Kd.int .u64) w A (nI l).length (nI l)) (h64 : W64 l) (ha : a < l.length) (hb : b < l.length) :
    Calls Try.prog 116 #[.agg #[pairV 122 (a : Int) (b : Int)], .slice A (nI l).length c] w fun e w' => e = .returned (.int .u64 ((18446744073709551615 ^^^ (l.getD a 0 &&& l.getD b 0) : Nat) : Int)) ∧ Below w.heap.size w w' := by
  have HB := Aside0.mk (Below.refl w.heap.size w)
  have hv := notu64 (l.getD a 0 &&& l.getD b 0) (and_lt64 (h64 a) (h64 b))
  have HV := Aside0.mk hv
  have hP := and_out a b A c l (w.alloc (.cells #[pairV 122 (a : Int) (b : Int)] 116)) (Kd.C_below hr (below_alloc HB.out _)) h64 ha hb
  have HP := Aside0.mk hP
  generalize l.getD a 0 &&& l.getD b 0 = x at *
  clear hr h64 ha hb hv hP
  unfold pairV at *
  go_enter Try.func116, Try.ntmps116
  go_wp2_with (go_at_call 118; (refine (HP.out).mono ?_); rintro e w' ⟨rfl, hb⟩; have HB2 := Aside0.mk hb; clear hb)
  go_ret
  exact ⟨by rw [← HV.out]; rfl, (below_alloc HB.out _).trans (HB2.out.mono (by simp only [World.size_alloc]; omega))⟩
theorem opp_or_out (a b : Nat) (A : Option Addr) (c : Nat) (l : List Nat) (w : World) (hr : Kd.C (Kd.int .u64) w A (nI l).length (nI l)) (h64 : W64 l) (ha : a < l.length) (hb : b < l.length) :
    Calls Try.prog 116 #[.agg #[pairV 123 (a : Int) (b : Int)], .slice A (nI l).length c] w fun e w' => e = .returned (.int .u64 ((18446744073709551615 ^^^ (l.getD a 0 ||| l.getD b 0) : Nat) : Int)) ∧ Below w.heap.size w w' := by
  have HB := Aside0.mk (Below.refl w.heap.size w)
  have hv := notu64 (l.getD a 0 ||| l.getD b 0) (or_lt64 (h64 a) (h64 b))
  have HV := Aside0.mk hv
  have hP := or_out a b A c l (w.alloc (.cells #[pairV 123 (a : Int) (b : Int)] 116)) (Kd.C_below hr (below_alloc HB.out _)) h64 ha hb
  have HP := Aside0.mk hP
  generalize l.getD a 0 ||| l.getD b 0 = x at *
  clear hr h64 ha hb hv hP
  unfold pairV at *
  go_enter Try.func116, Try.ntmps116
  go_wp2_with (go_at_call 119; (refine (HP.out).mono ?_); rintro e w' ⟨rfl, hb⟩; have HB2 := Aside0.mk hb; clear hb)
  go_ret
  exact ⟨by rw [← HV.out]; rfl, (below_alloc HB.out _).trans (HB2.out.mono (by simp only [World.size_alloc]; omega))⟩
end Go.Proofs.Ytelfalicickelaa.P
namespace Go.Proofs.Ytelfalicickelaa.GT
def num : List Bool → Nat
  | [] => 0
  | b :: l => b.toNat + 2 * num l
theorem num_lt : ∀ l : List Bool, num l < 2 ^ l.length
  | [] => by decide
  | b :: l => by
    have := num_lt l
    rw [List.length_cons, Nat.pow_succ]
    unfold num
    cases b <;> simp <;> omega
theorem num_bit : ∀ (l : List Bool) (i : Nat), (num l).testBit i = l.getD i false
  | [], i => by simp [num]
  | b :: l, 0 => by
    unfold num
    rw [Nat.testBit_zero]
    cases b <;> simp <;> omega
  | b :: l, i + 1 => by
    unfold num
    rw [Nat.testBit_succ, show (b.toNat + 2 * num l) / 2 = num l by cases b <;> simp <;> omega, num_bit l i]
    simp
theorem num_append (l : List Bool) (b : Bool) : num (l ++ [b]) = num l + b.toNat * 2 ^ l.length := by
  induction l with
  | nil => simp [num]
  | cons c l ih =>
    rw [List.cons_append, num, ih, num, List.length_cons, Nat.pow_succ]
    rw [Nat.mul_add, Nat.add_assoc, show 2 * (b.toNat * 2 ^ l.length) = b.toNat * (2 ^ l.length * 2) by rw [Nat.mul_comm 2, Nat.mul_assoc]]
theorem num_inj {l m : List Bool} (hl : l.length = m.length) (h : num l = num m) : l = m := by
  refine List.ext_getElem hl fun i h1 h2 => ?_
  have h3 := congrArg (fun x => x.testBit i) h
  simp only [num_bit] at h3
  simpa [List.getD_eq_getElem?_getD, h1, h2] using h3
structure G where
  k : Nat
  a : Nat
  b : Nat
deriving DecidableEq, Repr
structure C where
  n : Nat
  gs : List G
  os : List Nat
deriving DecidableEq, Repr
def gv (k : Nat) (x y : Bool) : Bool :=
  match k with
  | 0 => x && y
  | 1 => x || y
  | 2 => x ^^ y
  | 3 => !(x && y)
  | 4 => !(x || y)
  | _ => !x
def put (F : Option Nat) (i : Nat) (x : Bool) : Bool :=
  match F with
  | none => x
  | some f => if f / 2 = i then f % 2 == 1 else x
theorem put_pos {f i : Nat} (x : Bool) (h : f / 2 = i) : put (some f) i x = (f % 2 == 1) := by simp [put, h]
theorem put_neg {f i : Nat} (x : Bool) (h : f / 2 ≠ i) : put (some f) i x = x := by simp [put, h]
def stepG (F : Option Nat) (l : List Bool) (g : G) : List Bool := l ++ [put F l.length (gv g.k (l.getD g.a false) (l.getD g.b false))]
def ins (n : Nat) (F : Option Nat) (v : Nat) : List Bool := (List.range n).map fun i => put F i (v.testBit i)
def vals (c : C) (F : Option Nat) (v : Nat) : List Bool := c.gs.foldl (stepG F) (ins c.n F v)
def lines (c : C) : Nat := c.n + c.gs.length
def outs (c : C) (F : Option Nat) (v : Nat) : List Bool := c.os.map fun o => (vals c F v).getD o false
def reply (c : C) (F : Option Nat) (v : Nat) : Nat := num (outs c F v)
def wd (n : Nat) (p : Nat → Bool) : Nat := num ((List.range (2 ^ n)).map p)
theorem wd_bit (n : Nat) (p : Nat → Bool) (v : Nat) : (wd n p).testBit v = (decide (v < 2 ^ n) && p v) := by
  unfold wd
  rw [num_bit]
  by_cases h : v < 2 ^ n
  · simp [List.getD_eq_getElem?_getD, h]
  · simp [List.getD_eq_getElem?_getD, h]
theorem wd_lt (n : Nat) (p : Nat → Bool) : wd n p < 2 ^ 2 ^ n := by
  have := num_lt ((List.range (2 ^ n)).map p)
  simpa [wd] using this
theorem wd_ext (n : Nat) {p q : Nat → Bool} (h : ∀ v, v < 2 ^ n → p v = q v) : wd n p = wd n q := by
  unfold wd
  congr 1
  exact List.map_congr_left fun v hv => h v (List.mem_range.1 hv)
theorem nat_ext {a b : Nat} (h : ∀ i, a.testBit i = b.testBit i) : a = b := Nat.eq_of_testBit_eq h
theorem vals_length (c : C) (F : Option Nat) (v : Nat) : (vals c F v).length = lines c := by
  unfold vals lines
  have : ∀ (gs : List G) (l : List Bool), (gs.foldl (stepG F) l).length = l.length + gs.length := by
    intro gs
    induction gs with
    | nil => intro l; rfl
    | cons g gs ih => intro l; rw [List.foldl_cons, ih]; unfold stepG; simp; omega
  rw [this]
  simp [ins]
theorem outs_length (c : C) (F : Option Nat) (v : Nat) : (outs c F v).length = c.os.length := by simp [outs]
theorem foldl_prefix (F : Option Nat) : ∀ (gs : List G) (l : List Bool), l <+: gs.foldl (stepG F) l
  | [], l => List.prefix_rfl
  | g :: gs, l => by
    rw [List.foldl_cons]
    exact (List.prefix_append l _).trans (foldl_prefix F gs (stepG F l g))
theorem prefix_getD {l m : List Bool} (h : l <+: m) {j : Nat} (hj : j < l.length) : m.getD j false = l.getD j false := by
  obtain ⟨t, rfl⟩ := h
  simp [List.getD_eq_getElem?_getD, List.getElem?_append_left hj]
theorem ins_length (n : Nat) (F : Option Nat) (v : Nat) : (ins n F v).length = n := by simp [ins]
theorem vals_in (c : C) (F : Option Nat) (v : Nat) {j : Nat} (hj : j < c.n) : (vals c F v).getD j false = put F j (v.testBit j) := by
  unfold vals
  rw [prefix_getD (foldl_prefix F c.gs _) (by rw [ins_length]; exact hj)]
  simp [ins, List.getD_eq_getElem?_getD, hj]
theorem fold_length (F : Option Nat) : ∀ (gs : List G) (l : List Bool), (gs.foldl (stepG F) l).length = l.length + gs.length
  | [], l => rfl
  | g :: gs, l => by rw [List.foldl_cons, fold_length F gs]; unfold stepG; simp; omega
structure Ok (c : C) : Prop where
  n1 : 1 ≤ c.n
  n6 : c.n ≤ 6
  g16 : c.gs.length ≤ 16
  o1 : 1 ≤ c.os.length
  o4 : c.os.length ≤ 4
  g : ∀ i (h : i < c.gs.length), c.gs[i].k ≤ 5 ∧ c.gs[i].a < c.n + i ∧ c.gs[i].b < c.n + i ∧ (c.gs[i].k = 5 → c.gs[i].b = 0)
  o : ∀ x, x ∈ c.os → x < c.n + c.gs.length
theorem vals_gate' (c : C) (F : Option Nat) (v : Nat) {i : Nat} (hi : i < c.gs.length) (ha : c.gs[i].a < c.n + i) (hb : c.gs[i].b < c.n + i) :
    (vals c F v).getD (c.n + i) false = put F (c.n + i) (gv c.gs[i].k ((vals c F v).getD c.gs[i].a false) ((vals c F v).getD c.gs[i].b false)) := by
  have e : c.gs = c.gs.take i ++ c.gs[i] :: c.gs.drop (i + 1) := by
    rw [List.getElem_cons_drop, List.take_append_drop]
  obtain ⟨l, hl⟩ : ∃ l, (c.gs.take i).foldl (stepG F) (ins c.n F v) = l := ⟨_, rfl⟩
  have hlen : l.length = c.n + i := by rw [← hl, fold_length, ins_length, List.length_take]; omega
  have hv : vals c F v = (c.gs.drop (i + 1)).foldl (stepG F) (stepG F l c.gs[i]) := by
    unfold vals
    conv => lhs; rw [e]
    rw [List.foldl_append, List.foldl_cons, hl]
  have hp1 : stepG F l c.gs[i] <+: vals c F v := by rw [hv]; exact foldl_prefix F _ _
  have hp0 : l <+: vals c F v := (List.prefix_append l _).trans hp1
  rw [prefix_getD hp0 (j := c.gs[i].a) (by omega), prefix_getD hp0 (j := c.gs[i].b) (by omega), prefix_getD hp1 (j := c.n + i) (by unfold stepG; simp; omega)]
  unfold stepG
  rw [List.getD_eq_getElem?_getD, List.getElem?_append_right (by omega), hlen]
  simp
theorem vals_gate {c : C} (hc : Ok c) (F : Option Nat) (v : Nat) {i : Nat} (hi : i < c.gs.length) :
    (vals c F v).getD (c.n + i) false = put F (c.n + i) (gv c.gs[i].k ((vals c F v).getD c.gs[i].a false) ((vals c F v).getD c.gs[i].b false)) :=
  vals_gate' c F v hi (hc.g i hi).2.1 (hc.g i hi).2.2.1
def wline (c : C) (F : Option Nat) (j : Nat) : Nat := wd c.n fun v => (vals c F v).getD j false
def words (c : C) (F : Option Nat) (i : Nat) : List Nat := (List.range i).map (wline c F)
def outsW (c : C) (F : Option Nat) : List Nat := c.os.map (wline c F)
theorem words_succ (c : C) (F : Option Nat) (i : Nat) : words c F (i + 1) = words c F i ++ [wline c F i] := by simp [words, List.range_succ]
theorem words_get (c : C) (F : Option Nat) {i j : Nat} (h : j < i) : (words c F i).getD j 0 = wline c F j := by simp [words, List.getD_eq_getElem?_getD, h]
theorem wline_lt (c : C) (F : Option Nat) (j : Nat) : wline c F j < 2 ^ 2 ^ c.n := wd_lt _ _
def shows (c : C) (f : Nat) : Nat := wd c.n fun v => decide (reply c (some f) v ≠ reply c none v)
theorem reply_ne (c : C) (F F' : Option Nat) (v : Nat) : (reply c F v = reply c F' v) ↔ ∀ o, o ∈ c.os → (vals c F v).getD o false = (vals c F' v).getD o false := by
  unfold reply
  constructor
  · intro h o ho
    have h2 := num_inj (by rw [outs_length, outs_length]) h
    unfold outs at h2
    exact List.map_inj_left.1 h2 o ho
  · intro h
    congr 1
    exact List.map_inj_left.2 h
end Go.Proofs.Ytelfalicickelaa.GT
set_option linter.unusedSimpArgs false
set_option linter.unusedVariables false
namespace Go.Proofs.Ytelfalicickelaa.P
open Go.Lib Go.RowKit Go.Proofs.YtelfalicickelaaW.PrintWords Go.Proofs.YtelfalicickelaaW.PrintLast Go.Proofs.YtelfalicickelaaW.PrintMore Go.Proofs.Ytelfalicickelaa.Kit
def unitOf (s : S40) : Value := unitV s.f0 s.f1 s.f2
def CircAt (W : World) (g : Nat) (N : Nat) (ls : List S40) (os : List Int) : Prop :=
  ∃ A1 c1 A2 c2 Au cu, W.heap[g]? = some (.cells #[.int .i64 (N : Int), .slice A1 ls.length c1, .slice A2 os.length c2, .slice Au ls.length cu] 100 (0, 0)) ∧ Kd.C k40 W A1 ls.length ls ∧ ls.length ≤ c1 ∧ Kd.C (Kd.int .i64) W A2 os.length os ∧ os.length ≤ c2 ∧
    ∀ j (h : j < ls.length), ∃ ad, Au = some ad ∧ W.cell? (ad.add j) = some (unitOf ls[j])
theorem CircAt.keep {W W' : World} {g N : Nat} {ls : List S40} {os : List Int} (h : CircAt W g N ls os) (hb : Below W.heap.size W W') : CircAt W' g N ls os := by
  obtain ⟨A1, c1, A2, c2, Au, cu, h1, h2, h3, h4, h5, h6⟩ := h
  refine ⟨A1, c1, A2, c2, Au, cu, (hb.block g (Array.getElem?_eq_some_iff.1 h1).1).trans h1, Kd.C_below h2 hb, h3, Kd.C_below h4 hb, h5, fun j hj => ?_⟩
  obtain ⟨ad, e, hc⟩ := h6 j hj
  exact ⟨ad, e, pw_cell_below hb hc⟩
theorem CircAt.drewN {W : World} {g N : Nat} {ls : List S40} {os : List Int} (h : CircAt W g N ls os) (n : Nat) : CircAt (W.drewN n) g N ls os := h.keep (pw_below_drewN (Below.refl _ _) _)
theorem blkc {w : World} {g : Nat} {cs : Array Value} {t : TypeId} {f : Nat × Nat} (h : w.heap[g]? = some (.cells cs t f)) (i : Nat) {v : Value} (hv : cs[i]? = some v) : w.cell? ⟨g, i, none⟩ = some v := by
  unfold World.cell?
  rw [h]
  exact hv
set_option maxHeartbeats 4000000
set_option maxRecDepth 100000
theorem lines_calls {w : World} {g N : Nat} {ls : List S40} {os : List Int} (h : CircAt w g N ls os) (hN : N ≤ 6) (hl : ls.length ≤ 16) :
    Calls Try.prog 83 #[.pointer (some ⟨g, 0, none⟩)] w fun e w' => e = .returned (.int .i64 ((N + ls.length : Nat) : Int)) ∧ Drawn0 w w' := by
  obtain ⟨A1, c1, A2, c2, Au, cu, h1, _⟩ := h
  have hc0 := blkc h1 0 rfl
  have hc3 := blkc h1 3 rfl
  have hw : wrap64 ((N : Int) + (ls.length : Int)) = ((N + ls.length : Nat) : Int) := by rw [w64 (by omega) (by omega)]; omega
  have HW := Aside0.mk hw
  clear h1 hw
  go_enter Try.func83, Try.ntmps83
  go_wp2
  go_quiet (fail)
  go_wp2
  go_ret
  exact ⟨rfl, ⟨_, rfl⟩⟩
theorem wpow {N : Nat} (hN : N ≤ 62) : wrap64 (2 ^ N) = ((2 ^ N : Nat) : Int) := by
  have h3 : ((2 : Int) ^ N) = ((2 ^ N : Nat) : Int) := by simp
  rw [h3]
  have := pow_le62 hN
  generalize 2 ^ N = p at *
  exact w64n p (by omega)
theorem vectors_calls {w : World} {g N : Nat} {ls : List S40} {os : List Int} (h : CircAt w g N ls os) (hN : N ≤ 6) :
    Calls Try.prog 70 #[.pointer (some ⟨g, 0, none⟩)] w fun e w' => e = .returned (.int .i64 ((2 ^ N : Nat) : Int)) ∧ Drawn0 w w' := by
  obtain ⟨A1, c1, A2, c2, Au, cu, h1, _⟩ := h
  have hc0 := blkc h1 0 rfl
  have hw := wpow (N := N) (by omega)
  have HW := Aside0.mk hw
  clear h1 hw
  go_enter Try.func70, Try.ntmps70
  go_wp2
  go_ret
  exact ⟨by rw [← HW.out]; rfl, Drawn0.refl _⟩
theorem shl_all {N : Nat} (hN : N ≤ 6) : IntKind.u64.wrap (IntKind.u64.wrap (2 ^ min ((2 ^ N : Nat) : Int).toNat 64) - 1) = ((2 ^ 2 ^ N - 1 : Nat) : Int) := by
  have : N = 0 ∨ N = 1 ∨ N = 2 ∨ N = 3 ∨ N = 4 ∨ N = 5 ∨ N = 6 := by omega
  rcases this with rfl | rfl | rfl | rfl | rfl | rfl | rfl <;> decide +kernel
theorem all_calls {w : World} {g N : Nat} {ls : List S40} {os : List Int} (h : CircAt w g N ls os) (hN : N ≤ 6) :
    Calls Try.prog 63 #[.pointer (some ⟨g, 0, none⟩)] w fun e w' => e = .returned (.int .u64 ((2 ^ 2 ^ N - 1 : Nat) : Int)) ∧ Drawn0 w w' := by
  have HV := Aside0.mk (vectors_calls h hN)
  have HW := Aside0.mk (shl_all hN)
  obtain ⟨V, hV⟩ : ∃ V : Int, ((2 ^ N : Nat) : Int) = V := ⟨_, rfl⟩
  have hV0 : 0 ≤ V := by rw [← hV]; exact Int.natCast_nonneg _
  rw [hV] at HV HW
  have hp : decide (V < 0) = false := decide_eq_false (by omega)
  have hp2 : decide (0 ≤ V) = true := decide_eq_true (by omega)
  clear h hN
  go_enter Try.func63, Try.ntmps63
  go_wp2_with (go_at_call 70; (refine (HV.out).mono ?_); rintro e w' ⟨rfl, ⟨nd, rfl⟩⟩)
  go_ret
  exact ⟨by rw [← HW.out]; rfl, ⟨_, rfl⟩⟩
theorem failures_calls {w : World} {g N : Nat} {ls : List S40} {os : List Int} (h : CircAt w g N ls os) (hN : N ≤ 6) (hl : ls.length ≤ 16) :
    Calls Try.prog 55 #[.pointer (some ⟨g, 0, none⟩)] w fun e w' => e = .returned (.int .i64 ((2 * (N + ls.length) : Nat) : Int)) ∧ Drawn0 w w' := by
  have HV := Aside0.mk (lines_calls h hN hl)
  have hw : wrap64 (2 * ((N + ls.length : Nat) : Int)) = ((2 * (N + ls.length) : Nat) : Int) := by rw [w64 (by omega) (by omega)]; omega
  have HW := Aside0.mk hw
  clear h hN hl hw
  go_enter Try.func55, Try.ntmps55
  go_wp2_with (go_at_call 83; (refine (HV.out).mono ?_); rintro e w' ⟨rfl, ⟨nd, rfl⟩⟩)
  go_ret
  exact ⟨by rw [← HW.out]; rfl, ⟨_, rfl⟩⟩
def failN (n : Nat) (L a : Int) : Int := if 0 ≤ L ∧ L < (n : Int) ∧ 0 ≤ a ∧ a ≤ 1 then 2 * L + a else -1
theorem failure_ok {w : World} {g N : Nat} {ls : List S40} {os : List Int} (L a : Int) (h : CircAt w g N ls os) (hN : N ≤ 6) (hl : ls.length ≤ 16) (hx : 0 ≤ L ∧ L < ((N + ls.length : Nat) : Int) ∧ 0 ≤ a ∧ a ≤ 1) :
    Calls Try.prog 73 #[.pointer (some ⟨g, 0, none⟩), .agg #[.int .i64 L, .int .i64 a]] w fun e w' => e = .returned (.int .i64 (failN (N + ls.length) L a)) ∧ Below w.heap.size w w' := by
  have HB := Aside0.mk (Below.refl w.heap.size w)
  have HX := Aside0.mk (show Below w.heap.size w (w.alloc (.cells #[.int .i64 L, .int .i64 a] 44)) from below_alloc HB.out _)
  have HV := Aside0.mk (fun n => lines_calls ((h.keep HX.out).drewN n) hN hl)
  have d1 : decide (L < 0) = false := decide_eq_false (by omega)
  have d2 : decide (((N + ls.length : Nat) : Int) ≤ L) = false := decide_eq_false (by omega)
  have d3 : decide (a < 0) = false := decide_eq_false (by omega)
  have d4 : decide (1 < a) = false := decide_eq_false (by omega)
  have hw1 : wrap64 (2 * L) = 2 * L := w64 (by omega) (by omega)
  have hw2 : wrap64 (2 * L + a) = 2 * L + a := w64 (by omega) (by omega)
  have HS := Aside0.mk (show wrap64 (wrap64 (2 * L) + a) = 2 * L + a by rw [hw1, hw2])
  have HR := Aside0.mk (show failN (N + ls.length) L a = 2 * L + a by unfold failN; rw [if_pos hx])
  clear hw1 hw2
  have hc0 : (w.alloc (.cells #[.int .i64 L, .int .i64 a] 44)).cell? ⟨w.heap.size, 0, none⟩ = some (.int .i64 L) := cell_new _ _ _ _ rfl
  have hc1 : (w.alloc (.cells #[.int .i64 L, .int .i64 a] 44)).cell? ⟨w.heap.size, 1, none⟩ = some (.int .i64 a) := cell_new _ _ _ _ rfl
  obtain ⟨M, hM⟩ : ∃ M, N + ls.length = M := ⟨_, rfl⟩
  rw [hM] at HV HR d2 ⊢
  clear h hN hl hM hx
  go_enter Try.func73, Try.ntmps73
  go_wp2
  generalize (w.alloc (.cells #[.int .i64 L, .int .i64 a] 44)) = w1 at *
  (go_quiet (first | (go_at_call 83; exact Calls.quiet_of ((HV.out _).mono (by rintro e w2 ⟨rfl, nd, rfl⟩; exact ⟨rfl, nd, rfl⟩)))))
  go_wp2
  go_ret
  exact ⟨by have e1 := HR.out; first | (rw [hM] at e1; rw [e1]; rfl) | (rw [e1]; rfl) | (rw [HR.out]; rw [← HS.out]; rfl) | rfl, by repeat (first | exact HX.out | apply pw_below_drewN | apply below_drew1)⟩
theorem failure_no0 {w : World} {g N : Nat} {ls : List S40} {os : List Int} (L a : Int) (h : CircAt w g N ls os) (hN : N ≤ 6) (hl : ls.length ≤ 16) (hx : L < 0) :
    Calls Try.prog 73 #[.pointer (some ⟨g, 0, none⟩), .agg #[.int .i64 L, .int .i64 a]] w fun e w' => e = .returned (.int .i64 (failN (N + ls.length) L a)) ∧ Below w.heap.size w w' := by
  have HB := Aside0.mk (Below.refl w.heap.size w)
  have HX := Aside0.mk (show Below w.heap.size w (w.alloc (.cells #[.int .i64 L, .int .i64 a] 44)) from below_alloc HB.out _)
  have HV := Aside0.mk (fun n => lines_calls ((h.keep HX.out).drewN n) hN hl)
  have d1 : decide (L < 0) = true := decide_eq_true hx
  have HS : Aside0 ((-1 : Int) = -1) := ⟨rfl⟩
  have HR := Aside0.mk (show failN (N + ls.length) L a = -1 by unfold failN; rw [if_neg (by omega)])
  have hc0 : (w.alloc (.cells #[.int .i64 L, .int .i64 a] 44)).cell? ⟨w.heap.size, 0, none⟩ = some (.int .i64 L) := cell_new _ _ _ _ rfl
  have hc1 : (w.alloc (.cells #[.int .i64 L, .int .i64 a] 44)).cell? ⟨w.heap.size, 1, none⟩ = some (.int .i64 a) := cell_new _ _ _ _ rfl
  obtain ⟨M, hM⟩ : ∃ M, N + ls.length = M := ⟨_, rfl⟩
  rw [hM] at HV HR ⊢
  clear h hN hl hM hx
  go_enter Try.func73, Try.ntmps73
  go_wp2
  generalize (w.alloc (.cells #[.int .i64 L, .int .i64 a] 44)) = w1 at *
  (go_quiet (first | (go_at_call 83; exact Calls.quiet_of ((HV.out _).mono (by rintro e w2 ⟨rfl, nd, rfl⟩; exact ⟨rfl, nd, rfl⟩)))))
  go_wp2
  go_ret
  exact ⟨by have e1 := HR.out; first | (rw [hM] at e1; rw [e1]; rfl) | (rw [e1]; rfl) | (rw [HR.out]; rw [← HS.out]; rfl) | rfl, by repeat (first | exact HX.out | apply pw_below_drewN | apply below_drew1)⟩
theorem failure_no1 {w : World} {g N : Nat} {ls : List S40} {os : List Int} (L a : Int) (h : CircAt w g N ls os) (hN : N ≤ 6) (hl : ls.length ≤ 16) (hx : 0 ≤ L ∧ ((N + ls.length : Nat) : Int) ≤ L) :
    Calls Try.prog 73 #[.pointer (some ⟨g, 0, none⟩), .agg #[.int .i64 L, .int .i64 a]] w fun e w' => e = .returned (.int .i64 (failN (N + ls.length) L a)) ∧ Below w.heap.size w w' := by
  have HB := Aside0.mk (Below.refl w.heap.size w)
  have HX := Aside0.mk (show Below w.heap.size w (w.alloc (.cells #[.int .i64 L, .int .i64 a] 44)) from below_alloc HB.out _)
  have HV := Aside0.mk (fun n => lines_calls ((h.keep HX.out).drewN n) hN hl)
  have d1 : decide (L < 0) = false := decide_eq_false (by omega)
  have d2 : decide (((N + ls.length : Nat) : Int) ≤ L) = true := decide_eq_true (by omega)
  have HS : Aside0 ((-1 : Int) = -1) := ⟨rfl⟩
  have HR := Aside0.mk (show failN (N + ls.length) L a = -1 by unfold failN; rw [if_neg (by omega)])
  have hc0 : (w.alloc (.cells #[.int .i64 L, .int .i64 a] 44)).cell? ⟨w.heap.size, 0, none⟩ = some (.int .i64 L) := cell_new _ _ _ _ rfl
  have hc1 : (w.alloc (.cells #[.int .i64 L, .int .i64 a] 44)).cell? ⟨w.heap.size, 1, none⟩ = some (.int .i64 a) := cell_new _ _ _ _ rfl
  obtain ⟨M, hM⟩ : ∃ M, N + ls.length = M := ⟨_, rfl⟩
  rw [hM] at HV HR d2 ⊢
  clear h hN hl hM hx
  go_enter Try.func73, Try.ntmps73
  go_wp2
  generalize (w.alloc (.cells #[.int .i64 L, .int .i64 a] 44)) = w1 at *
  (go_quiet (first | (go_at_call 83; exact Calls.quiet_of ((HV.out _).mono (by rintro e w2 ⟨rfl, nd, rfl⟩; exact ⟨rfl, nd, rfl⟩)))))
  go_wp2
  go_ret
  exact ⟨by have e1 := HR.out; first | (rw [hM] at e1; rw [e1]; rfl) | (rw [e1]; rfl) | (rw [HR.out]; rw [← HS.out]; rfl) | rfl, by repeat (first | exact HX.out | apply pw_below_drewN | apply below_drew1)⟩
theorem failure_no2 {w : World} {g N : Nat} {ls : List S40} {os : List Int} (L a : Int) (h : CircAt w g N ls os) (hN : N ≤ 6) (hl : ls.length ≤ 16) (hx : 0 ≤ L ∧ L < ((N + ls.length : Nat) : Int) ∧ a < 0) :
    Calls Try.prog 73 #[.pointer (some ⟨g, 0, none⟩), .agg #[.int .i64 L, .int .i64 a]] w fun e w' => e = .returned (.int .i64 (failN (N + ls.length) L a)) ∧ Below w.heap.size w w' := by
  have HB := Aside0.mk (Below.refl w.heap.size w)
  have HX := Aside0.mk (show Below w.heap.size w (w.alloc (.cells #[.int .i64 L, .int .i64 a] 44)) from below_alloc HB.out _)
  have HV := Aside0.mk (fun n => lines_calls ((h.keep HX.out).drewN n) hN hl)
  have d1 : decide (L < 0) = false := decide_eq_false (by omega)
  have d2 : decide (((N + ls.length : Nat) : Int) ≤ L) = false := decide_eq_false (by omega)
  have d3 : decide (a < 0) = true := decide_eq_true (by omega)
  have HS : Aside0 ((-1 : Int) = -1) := ⟨rfl⟩
  have HR := Aside0.mk (show failN (N + ls.length) L a = -1 by unfold failN; rw [if_neg (by omega)])
  have hc0 : (w.alloc (.cells #[.int .i64 L, .int .i64 a] 44)).cell? ⟨w.heap.size, 0, none⟩ = some (.int .i64 L) := cell_new _ _ _ _ rfl
  have hc1 : (w.alloc (.cells #[.int .i64 L, .int .i64 a] 44)).cell? ⟨w.heap.size, 1, none⟩ = some (.int .i64 a) := cell_new _ _ _ _ rfl
  obtain ⟨M, hM⟩ : ∃ M, N + ls.length = M := ⟨_, rfl⟩
  rw [hM] at HV HR d2 ⊢
  clear h hN hl hM hx
  go_enter Try.func73, Try.ntmps73
  go_wp2
  generalize (w.alloc (.cells #[.int .i64 L, .int .i64 a] 44)) = w1 at *
  (go_quiet (first | (go_at_call 83; exact Calls.quiet_of ((HV.out _).mono (by rintro e w2 ⟨rfl, nd, rfl⟩; exact ⟨rfl, nd, rfl⟩)))))
  go_wp2
  go_ret
  exact ⟨by have e1 := HR.out; first | (rw [hM] at e1; rw [e1]; rfl) | (rw [e1]; rfl) | (rw [HR.out]; rw [← HS.out]; rfl) | rfl, by repeat (first | exact HX.out | apply pw_below_drewN | apply below_drew1)⟩
theorem failure_no3 {w : World} {g N : Nat} {ls : List S40} {os : List Int} (L a : Int) (h : CircAt w g N ls os) (hN : N ≤ 6) (hl : ls.length ≤ 16) (hx : 0 ≤ L ∧ L < ((N + ls.length : Nat) : Int) ∧ 1 < a) :
    Calls Try.prog 73 #[.pointer (some ⟨g, 0, none⟩), .agg #[.int .i64 L, .int .i64 a]] w fun e w' => e = .returned (.int .i64 (failN (N + ls.length) L a)) ∧ Below w.heap.size w w' := by
  have HB := Aside0.mk (Below.refl w.heap.size w)
  have HX := Aside0.mk (show Below w.heap.size w (w.alloc (.cells #[.int .i64 L, .int .i64 a] 44)) from below_alloc HB.out _)
  have HV := Aside0.mk (fun n => lines_calls ((h.keep HX.out).drewN n) hN hl)
  have d1 : decide (L < 0) = false := decide_eq_false (by omega)
  have d2 : decide (((N + ls.length : Nat) : Int) ≤ L) = false := decide_eq_false (by omega)
  have d3 : decide (a < 0) = false := decide_eq_false (by omega)
  have d4 : decide (1 < a) = true := decide_eq_true (by omega)
  have HS : Aside0 ((-1 : Int) = -1) := ⟨rfl⟩
  have HR := Aside0.mk (show failN (N + ls.length) L a = -1 by unfold failN; rw [if_neg (by omega)])
  have hc0 : (w.alloc (.cells #[.int .i64 L, .int .i64 a] 44)).cell? ⟨w.heap.size, 0, none⟩ = some (.int .i64 L) := cell_new _ _ _ _ rfl
  have hc1 : (w.alloc (.cells #[.int .i64 L, .int .i64 a] 44)).cell? ⟨w.heap.size, 1, none⟩ = some (.int .i64 a) := cell_new _ _ _ _ rfl
  obtain ⟨M, hM⟩ : ∃ M, N + ls.length = M := ⟨_, rfl⟩
  rw [hM] at HV HR d2 ⊢
  clear h hN hl hM hx
  go_enter Try.func73, Try.ntmps73
  go_wp2
  generalize (w.alloc (.cells #[.int .i64 L, .int .i64 a] 44)) = w1 at *
  (go_quiet (first | (go_at_call 83; exact Calls.quiet_of ((HV.out _).mono (by rintro e w2 ⟨rfl, nd, rfl⟩; exact ⟨rfl, nd, rfl⟩)))))
  go_wp2
  go_ret
  exact ⟨by have e1 := HR.out; first | (rw [hM] at e1; rw [e1]; rfl) | (rw [e1]; rfl) | (rw [HR.out]; rw [← HS.out]; rfl) | rfl, by repeat (first | exact HX.out | apply pw_below_drewN | apply below_drew1)⟩
theorem failure_calls {w : World} {g N : Nat} {ls : List S40} {os : List Int} (L a : Int) (h : CircAt w g N ls os) (hN : N ≤ 6) (hl : ls.length ≤ 16) :
    Calls Try.prog 73 #[.pointer (some ⟨g, 0, none⟩), .agg #[.int .i64 L, .int .i64 a]] w fun e w' => e = .returned (.int .i64 (failN (N + ls.length) L a)) ∧ Below w.heap.size w w' := by
  by_cases h1 : L < 0
  · exact failure_no0 L a h hN hl h1
  by_cases h2 : L < ((N + ls.length : Nat) : Int)
  · by_cases h3 : a < 0
    · exact failure_no2 L a h hN hl ⟨by omega, h2, h3⟩
    by_cases h4 : a ≤ 1
    · exact failure_ok L a h hN hl ⟨by omega, h2, by omega, h4⟩
    · exact failure_no3 L a h hN hl ⟨by omega, h2, by omega⟩
  · exact failure_no1 L a h hN hl ⟨by omega, by omega⟩
end Go.Proofs.Ytelfalicickelaa.P
set_option linter.unusedSimpArgs false
set_option linter.unusedVariables false
namespace Go.Proofs.Ytelfalicickelaa.P
open Go.Lib Go.RowKit Go.Proofs.YtelfalicickelaaW.PrintWords Go.Proofs.YtelfalicickelaaW.PrintLast Go.Proofs.YtelfalicickelaaW.PrintMore Go.Proofs.Ytelfalicickelaa.Kit
theorem ints_in {k : IntKind} {w : World} {A : Option Addr} {xs : List Int} (hr : Kd.C (Kd.int k) w A xs.length xs) (h0 : 0 < xs.length) :
    ∃ b off, A = some ⟨b, off, none⟩ ∧ ∀ j, j < xs.length → w.cell? ⟨b, off + j, none⟩ = some (.int k xs[j]!) := by
  obtain ⟨ad, e0, hx0⟩ := Kd.at_int hr 0 (by omega) (by omega)
  have hs : ad.spot = none := by
    have hadd : ad.add (Int.toNat 0) = ad := by simp [Addr.add]
    rw [hadd] at hx0
    unfold World.cell? at hx0
    split at hx0
    · split at hx0
      · cases hx0
      · rename_i h; simpa using h
    · cases hx0
  have hadd : ∀ j, ad.add j = ⟨ad.block, ad.off + j, none⟩ := fun j => by
    obtain ⟨bb, oo, ss⟩ := ad
    dsimp only at hs
    subst hs
    unfold Addr.add
    by_cases e : j = 0
    · rw [if_pos e, e]; rfl
    · rw [if_neg e]
  refine ⟨ad.block, ad.off, by rw [e0]; cases ad; simp_all, fun j hj => ?_⟩
  obtain ⟨ad', e', hx⟩ := Kd.at_int hr (j : Int) (by omega) (by omega)
  rw [e0] at e'
  injection e' with e'
  subst e'
  rw [Int.toNat_natCast, hadd] at hx
  rw [hx, rd_get xs j hj, getElem!_pos xs j hj]
def badL (M : Nat) (l : Int) : Bool := decide (l < 0) || decide ((M : Int) ≤ l)
set_option maxHeartbeats 4000000
set_option maxRecDepth 100000
theorem of1_pred (N i Bc Bi : Nat) (hN : N ≤ 6) (hi : i ≤ 16) {w : World} {o1 o2 : Value} (h1 : ∃ f, w.heap[Bc]? = some (.cells #[.int .i64 (N : Int), o1, o2] 25 f)) (h2 : ∃ f, w.heap[Bi]? = some (.cells #[.int .i64 (i : Int)] 3 f)) :
    PredAt Try.prog 87 #[.pointer (some ⟨Bc, 0, none⟩), .pointer (some ⟨Bi, 0, none⟩)] (fun x : Int => Value.int .i64 x) (badL (N + i)) w := by
  intro W x hW
  obtain ⟨f1, h1⟩ := h1
  obtain ⟨f2, h2⟩ := h2
  have hc0 := blkc ((hW.block Bc (Array.getElem?_eq_some_iff.1 h1).1).trans h1) 0 rfl
  have hc1 := blkc ((hW.block Bi (Array.getElem?_eq_some_iff.1 h2).1).trans h2) 0 rfl
  clear h1 h2 hW
  have hw : wrap64 ((N : Int) + (i : Int)) = ((N + i : Nat) : Int) := by rw [w64 (by omega) (by omega)]; omega
  show Calls _ _ #[.int .i64 x, .pointer (some ⟨Bc, 0, none⟩), .pointer (some ⟨Bi, 0, none⟩)] W _
  unfold badL
  by_cases ha : x < 0
  · have d1 : decide (x < 0) = true := decide_eq_true ha
    clear ha hw
    go_enter Try.func87, Try.ntmps87
    go_wp2
    go_ret
    exact ⟨by rw [d1]; rfl, 0, rfl⟩
  · have d1 : decide (x < 0) = false := decide_eq_false ha
    rw [d1, Bool.false_or]
    obtain ⟨b, hb⟩ : ∃ b, decide (((N + i : Nat) : Int) ≤ x) = b := ⟨_, rfl⟩
    rw [hb]
    rw [← hw] at hb
    clear ha hw hN hi
    go_enter Try.func87, Try.ntmps87
    go_wp2
    go_ret
    exact ⟨by rw [← hb]; rfl, 0, rfl⟩
theorem any_reads (N i Bc Bi : Nat) (hN : N ≤ 6) (hi : i ≤ 16) {w : World} {o1 o2 : Value} (h1 : ∃ f, w.heap[Bc]? = some (.cells #[.int .i64 (N : Int), o1, o2] 25 f)) (h2 : ∃ f, w.heap[Bi]? = some (.cells #[.int .i64 (i : Int)] 3 f))
    (A : Option Addr) (c : Nat) (xs : List Int) (hr : Kd.C (Kd.int .i64) w A xs.length xs) (b : Bool) (hb : xs.any (badL (N + i)) = b) :
    Calls Try.prog 86 #[.slice A xs.length c, .func (.func 87) #[] #[.pointer (some ⟨Bc, 0, none⟩), .pointer (some ⟨Bi, 0, none⟩)]] w fun e w' => e = .returned (.bool b) ∧ Drawn0 w w' := by
  by_cases h0 : xs.length = 0
  · have hl : xs = [] := List.length_eq_zero_iff.1 h0
    subst hl
    refine (Try.slices_ContainsFunc_empty (α := Int) A c _ w).mono ?_
    rintro e w' ⟨rfl, rfl⟩
    exact ⟨by rw [← hb]; rfl, Drawn0.refl _⟩
  · obtain ⟨b', off, rfl, h3⟩ := ints_in hr (by omega)
    refine (Try.slices_ContainsFunc (fun x : Int => Value.int .i64 x) (badL (N + i)) 87 _ (fun _ _ => rfl) b' off xs.length c xs w (of1_pred N i Bc Bi hN hi h1 h2) (Nat.le_refl _) (by have := hr.2.1; omega) h3).mono ?_
    rintro e w' ⟨rfl, nd, rfl⟩
    refine ⟨?_, nd, rfl⟩
    rw [← hb, List.take_of_length_le (Nat.le_refl _)]
theorem of2_pred (g N Bx : Nat) (ls : List S40) (os : List Int) (hN : N ≤ 6) (hl : ls.length ≤ 16) {w : World} (h : CircAt w g N ls os) (h2 : ∃ f, w.heap[Bx]? = some (.cells #[.pointer (some ⟨g, 0, none⟩)] 67 f)) :
    PredAt Try.prog 88 #[.pointer (some ⟨Bx, 0, none⟩)] (fun x : Int => Value.int .i64 x) (badL (N + ls.length)) w := by
  intro W x hW
  obtain ⟨f2, h2⟩ := h2
  have hc1 := blkc ((hW.block Bx (Array.getElem?_eq_some_iff.1 h2).1).trans h2) 0 rfl
  have HC := Aside0.mk (fun n => lines_calls ((h.keep hW).drewN n) hN hl)
  clear h h2 hW hN hl
  show Calls _ _ #[.int .i64 x, .pointer (some ⟨Bx, 0, none⟩)] W _
  unfold badL
  by_cases ha : x < 0
  · have d1 : decide (x < 0) = true := decide_eq_true ha
    clear ha
    go_enter Try.func88, Try.ntmps88
    go_wp2
    go_ret
    exact ⟨by rw [d1]; rfl, 0, rfl⟩
  · have d1 : decide (x < 0) = false := decide_eq_false ha
    rw [d1, Bool.false_or]
    obtain ⟨M, hM⟩ : ∃ M, N + ls.length = M := ⟨_, rfl⟩
    rw [hM] at HC ⊢
    obtain ⟨b, hb⟩ : ∃ b, decide ((M : Int) ≤ x) = b := ⟨_, rfl⟩
    rw [hb]
    clear ha
    go_enter Try.func88, Try.ntmps88
    go_wp2_with (go_at_call 83; (refine (HC.out 0).mono ?_); rintro e w' ⟨rfl, ⟨nd, rfl⟩⟩)
    go_ret
    exact ⟨by rw [← hb]; rfl, _, rfl⟩
theorem any_outs (g N Bx : Nat) (ls : List S40) (os : List Int) (hN : N ≤ 6) (hl : ls.length ≤ 16) {w : World} (h : CircAt w g N ls os) (h2 : ∃ f, w.heap[Bx]? = some (.cells #[.pointer (some ⟨g, 0, none⟩)] 67 f))
    (A : Option Addr) (c : Nat) (xs : List Int) (hr : Kd.C (Kd.int .i64) w A xs.length xs) (b : Bool) (hb : xs.any (badL (N + ls.length)) = b) :
    Calls Try.prog 86 #[.slice A xs.length c, .func (.func 88) #[] #[.pointer (some ⟨Bx, 0, none⟩)]] w fun e w' => e = .returned (.bool b) ∧ Drawn0 w w' := by
  by_cases h0 : xs.length = 0
  · have hl : xs = [] := List.length_eq_zero_iff.1 h0
    subst hl
    refine (Try.slices_ContainsFunc_empty (α := Int) A c _ w).mono ?_
    rintro e w' ⟨rfl, rfl⟩
    exact ⟨by rw [← hb]; rfl, Drawn0.refl _⟩
  · obtain ⟨b', off, rfl, h3⟩ := ints_in hr (by omega)
    refine (Try.slices_ContainsFunc (fun x : Int => Value.int .i64 x) (badL (N + ls.length)) 88 _ (fun _ _ => rfl) b' off xs.length c xs w (of2_pred g N Bx ls os hN hl h h2) (Nat.le_refl _) (by have := hr.2.1; omega) h3).mono ?_
    rintro e w' ⟨rfl, nd, rfl⟩
    refine ⟨?_, nd, rfl⟩
    rw [← hb, List.take_of_length_le (Nat.le_refl _)]
end Go.Proofs.Ytelfalicickelaa.P
