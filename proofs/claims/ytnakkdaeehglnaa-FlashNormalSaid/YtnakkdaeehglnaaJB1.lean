/- Several texts of this session in one file, in build order: Pt, Kit, HSet, Shelf, Pop, HBits, Pf74, Pf63, HPath, HContains, Isort, HSort, Pf41, HListed, HGrown, HSearch, HSearch2, HLongest, Pf47, Pf48, Pf75, Pf64, Pf49, HCoil, HCoil2, Pf19. -/
import Derived.Test.YtnakkdaeehglnaaProg
import Derived.Below
import Derived.Deep.Draws
import Derived.Deep.AppendLies
import Derived.Maps.AppendAt
import Derived.OwnWalk
import Derived.Laws.BytesArg
import Derived.Laws.MakeOwn
import Derived.Laws.OwnMore
import Derived.Deep.OwnRows
import Derived.Tactics
import Derived.Lib.ConvBytes
import Derived.Laws.Slices
import Derived.WalkKit
import Derived.KernelRfl
import Derived.RowKit3
import Derived.Deep.LoopGhost
import Derived.Deep.QuietTactic
import Derived.BigQuiet
import Derived.WideLaws
import Derived.Deep.DeepCutAuto
import Derived.Deep.CutBlock
import Derived.Deep.RegionHeld3
import Derived.Laws.Rows
import Derived.Lib.AppendStr
import Derived.ArgAppend
import Derived.Laws.IdiomCopy
import Derived.OrdersHeld
import Derived.Laws.BitsLemmas
import Derived.RowKit
import Derived.Test.YtnakkdaeehglnaaWWords
import Derived.Test.YtnakkdaeehglnaaWLast
import Derived.Test.YtnakkdaeehglnaaWTab
import Derived.Test.YtnakkdaeehglnaaWFour
import Derived.Test.YtnakkdaeehglnaaWQPut
import Derived.Test.YtnakkdaeehglnaaWApart
import Derived.Test.YtnakkdaeehglnaaWArr
import Derived.Test.YtnakkdaeehglnaaWZeros
import Derived.Test.YtnakkdaeehglnaaWFoot
import Derived.Test.YtnakkdaeehglnaaWKept
import Derived.Test.YtnakkdaeehglnaaWShare
import Derived.Test.YtnakkdaeehglnaaWN
import Derived.Test.YtnakkdaeehglnaaWFootNe
import Derived.Test.YtnakkdaeehglnaaWAt
import Derived.Test.YtnakkdaeehglnaaWEqStruct
import Derived.Test.YtnakkdaeehglnaaWRepsOne
import Derived.Test.YtnakkdaeehglnaaWInv
import Derived.Test.YtnakkdaeehglnaaWInvWords
import Derived.Test.YtnakkdaeehglnaaWGuard
import Derived.Test.YtnakkdaeehglnaaWNEv
import Derived.Test.YtnakkdaeehglnaaWMore
import Derived.Laws.Entries
import Derived.Maps.OwnSet
import Derived.Shelf.Small.Bits
import Derived.Shelf.Strconv.Itoa0
import Derived.Shelf.Sort.Plain
import Derived.Shelf.Slices.Equal
import Derived.Ground.Names2Prog
import Derived.Shelf.Slices.Clone
import Derived.Shelf.Slices.SearchI
import Derived.Shelf.Slices.In.SortNone
import Derived.Ground.SlgnProg
import Derived.Shelf.SlicesE.Equal
import Derived.Shelf.SlicesE.Clone
import Derived.Ground.SlgfProg
import Derived.Shelf.SlicesE.IndexFunc
import Derived.Lib.BitFns
import Init.Data.List.Sort.Lemmas
import Derived.Deep.RegionLawGrows
import Derived.Laws.EntriesVeiled
import Derived.Laws.NewBlocks
import Derived.Lib.SliceRun
namespace Go.Proofs.Ytnakkdaeehglnaa.P
open Go.RowKit Go.Proofs.YtnakkdaeehglnaaW.PrintWords Go.Proofs.YtnakkdaeehglnaaW.PrintLast Go.Proofs.YtnakkdaeehglnaaW.PrintMore
attribute [local go_sem] max2_int min2_int max_two min_two max_three min_three max_four min_four   -- for this text's walks alone
set_option linter.unusedVariables false
set_option linter.unusedSimpArgs false



def errW : Option Int → Value
  | none => .nilIface
  | some c => .iface 0 (.int .i64 c)
theorem errW_none : errW none = .nilIface := rfl
theorem errW_some (c : Int) : errW (some c) = .iface 0 (.int .i64 c) := rfl

theorem info3 : (Try.prog.info? 3).map (fun i => (i.zero, i.size, i.bytes)) = some (some (.int .i64 0), 1, 8) := by kernel_rfl
theorem info4 : (Try.prog.info? 4).map (fun i => (i.zero, i.size, i.bytes)) = some (some (.bool false), 1, 1) := by kernel_rfl
-- the values' own types
def rd_L1 (xs : List (List Int)) (i : Int) : (List Int) := xs.getD i.toNat ([] : List Int)
theorem at_L1 {w : World} {A : Option Addr} {n : Nat} {xs : List (List Int)} (h : Kd.C (Kd.slice 3 (Kd.int .i64)) w A n xs) (i : Int) (h0 : 0 ≤ i) (h1 : i < n) : ∃ ad A0 c0, A = some ad ∧ w.cell? (ad.add i.toNat) = some (.slice A0 (rd_L1 xs i).length c0) ∧ (rd_L1 xs i).length ≤ c0 ∧ (Kd.int .i64).C w A0 (rd_L1 xs i).length (rd_L1 xs i) := by
  obtain ⟨ad, c, e, _, hK, hc0⟩ := Kd.C_get h ([] : List Int) i h0 h1
  have hc : ∀ j u, c[j]? = some u → w.cell? (ad.add (i.toNat * 1 + j)) = some u := hc0
  obtain ⟨A0, c0, rfl, l0, g0⟩ := hK
  exact ⟨ad, A0, c0, e, by have hq := hc 0 _ rfl; rwa [Nat.mul_one, Nat.add_zero] at hq, l0, g0⟩

theorem ne_own_len {A : Option Addr} {n m c c2 k : Nat} (h : some k ≠ (Value.slice A n c).ownBlock) : some k ≠ (Value.slice A m c2).ownBlock := by cases A <;> exact h
end Go.Proofs.Ytnakkdaeehglnaa.P

set_option linter.unusedSimpArgs false
set_option linter.unusedVariables false
namespace Go.Proofs.Ytnakkdaeehglnaa.Kit
open Go.RowKit Go.Proofs.YtnakkdaeehglnaaW.PrintWords Go.Proofs.YtnakkdaeehglnaaW.PrintMore

theorem Ev.pos {α : Type} {c : Prop} [Decidable c] {f g : Nat → Option α} {r : α} (h : c) (k : Ev f r) : Ev (fun n => if c then f n else g n) r := by
  obtain ⟨K, hK⟩ := k
  exact ⟨K, fun n hn => by show (if c then f n else g n) = some r; rw [if_pos h]; exact hK n hn⟩
theorem Ev.neg {α : Type} {c : Prop} [Decidable c] {f g : Nat → Option α} {r : α} (h : ¬ c) (k : Ev g r) : Ev (fun n => if c then f n else g n) r := by
  obtain ⟨K, hK⟩ := k
  exact ⟨K, fun n hn => by show (if c then f n else g n) = some r; rw [if_neg h]; exact hK n hn⟩
theorem Ev.bnd {α β : Type} {g : Nat → Option α} {f : Nat → α → Option β} {a : α} {r : β} (h : Ev g a) (k : Ev (fun n => f n a) r) : Ev (fun n => (g n).bind (fun t => f n t)) r := Ev.bind h k
theorem Ev.sbind {α β : Type} {f : Nat → α → Option β} {a : α} {r : β} (k : Ev (fun n => f n a) r) : Ev (fun n => (some a).bind (fun t => f n t)) r := k
theorem Ev.ret {α : Type} {a r : α} (h : a = r) : Ev (fun _ => some a) r := ⟨0, fun _ _ => by rw [h]⟩
theorem Ev.at {α : Type} {g : Nat → Option α} {r : α} (K : Nat) (h : ∀ k, K ≤ k → g k = some r) : Ev g r := ⟨K, h⟩
/-- Of two that hold of one function the answers are one. -/
theorem Ev.uniq {α : Type} {g : Nat → Option α} {r q : α} (h : Ev g r) (k : Ev g q) : r = q := by
  obtain ⟨K, hK⟩ := h
  obtain ⟨K', hK'⟩ := k
  have h1 := hK (max K K') (Nat.le_max_left _ _)
  rw [hK' (max K K') (Nat.le_max_right _ _)] at h1
  injection h1 with h1
  exact h1.symm

theorem w64 {x : Int} (h0 : -9223372036854775808 ≤ x) (h1 : x ≤ 9223372036854775807) : wrap64 x = x := by
  unfold wrap64
  omega
theorem w64n (n : Nat) (h : n ≤ 9223372036854775807) : wrap64 (n : Int) = n := w64 (by omega) (by omega)

theorem pow_le62 {n : Nat} (h : n ≤ 62) : 2 ^ n ≤ 4611686018427387904 := by
  have : 2 ^ n ≤ 2 ^ 62 := Nat.pow_le_pow_right (by decide) h
  simpa using this
theorem shl1 {n : Int} (h0 : 0 ≤ n) (h1 : n ≤ 62) : shl .i64 1 n = ((2 ^ n.toNat : Nat) : Int) := by
  unfold shl
  have hb : IntKind.i64.bits = 64 := rfl
  rw [hb, Nat.min_eq_left (by omega), IntKind.wrap_i64]
  have h2 := pow_le62 (n := n.toNat) (by omega)
  have h3 : ((2 : Int) ^ n.toNat) = ((2 ^ n.toNat : Nat) : Int) := by simp
  rw [Int.one_mul, h3]
  generalize 2 ^ n.toNat = p at h2
  omega
theorem shl1n {n : Nat} (h1 : n ≤ 62) : shl .i64 1 (n : Int) = ((2 ^ n : Nat) : Int) := by
  have := shl1 (n := (n : Int)) (by omega) (by omega)
  simpa using this
theorem shrn {x n : Nat} (h1 : n ≤ 64) : shr .i64 (x : Int) (n : Int) = ((x / 2 ^ n : Nat) : Int) := by
  unfold shr
  have hb : IntKind.i64.bits = 64 := rfl
  rw [hb, Nat.min_eq_left (by omega)]
  simp
theorem tmodn (x n : Nat) : Int.tmod (x : Int) (n : Int) = ((x % n : Nat) : Int) := by
  simp [Int.tmod]
theorem tdivn (x n : Nat) : Int.tdiv (x : Int) (n : Int) = ((x / n : Nat) : Int) := by
  simp [Int.tdiv]

theorem bits_i64 (op : BinOp) (x y : Nat) (hx : x < 9223372036854775808) (hy : y < 9223372036854775808) :
    (op = .and → Go.bits .and .i64 (x : Int) (y : Int) = ((x &&& y : Nat) : Int)) := by
  intro _
  have hw : ∀ n : Int, 0 ≤ n → n < 2 ^ 63 → IntKind.i64.wrap n = n := fun n h0 h1 => by
    have h1' : n < 9223372036854775808 := by simpa using h1
    rw [IntKind.wrap_i64]; omega
  exact (bits_nat .i64 63 (by decide) hw x y (by simpa using hx) (by simpa using hy)).1
theorem and64 (x y : Nat) (hx : x < 9223372036854775808) (hy : y < 9223372036854775808) : Go.bits .and .i64 (x : Int) (y : Int) = ((x &&& y : Nat) : Int) := bits_i64 .and x y hx hy rfl
theorem or64 (x y : Nat) (hx : x < 9223372036854775808) (hy : y < 9223372036854775808) : Go.bits .or .i64 (x : Int) (y : Int) = ((x ||| y : Nat) : Int) := by
  have hw : ∀ n : Int, 0 ≤ n → n < 2 ^ 63 → IntKind.i64.wrap n = n := fun n h0 h1 => by
    have h1' : n < 9223372036854775808 := by simpa using h1
    rw [IntKind.wrap_i64]; omega
  exact (bits_nat .i64 63 (by decide) hw x y (by simpa using hx) (by simpa using hy)).2
theorem xor64 (x y : Nat) (hx : x < 9223372036854775808) (hy : y < 9223372036854775808) : Go.bits .xor .i64 (x : Int) (y : Int) = ((x ^^^ y : Nat) : Int) := by
  have hx' : x % 2 ^ 64 = x := Nat.mod_eq_of_lt (Nat.lt_trans hx (by decide))
  have hy' : y % 2 ^ 64 = y := Nat.mod_eq_of_lt (Nat.lt_trans hy (by decide))
  have hb : IntKind.i64.bits = 64 := rfl
  have hlt : x ^^^ y < 2 ^ 63 := Nat.xor_lt_two_pow (by simpa using hx) (by simpa using hy)
  have hlt' : x ^^^ y < 9223372036854775808 := by simpa using hlt
  simp only [Go.bits, hb, BitVec.ofInt_natCast, BitVec.toNat_xor, BitVec.toNat_ofNat, hx', hy']
  rw [IntKind.wrap_i64]
  omega
theorem rd_get (l : List Int) (i : Nat) (h : i < l.length) : rd l (i : Int) = l[i] := by
  unfold rd
  simp [List.getD_eq_getElem?_getD, List.getElem?_eq_getElem h]

end Go.Proofs.Ytnakkdaeehglnaa.Kit

set_option linter.unusedSimpArgs false
set_option linter.unusedVariables false
namespace Go.Proofs.Ytnakkdaeehglnaa.P
open Go.RowKit Go.Proofs.YtnakkdaeehglnaaW.PrintWords Go.Proofs.YtnakkdaeehglnaaW.PrintLast Go.Proofs.YtnakkdaeehglnaaW.PrintMore Go.Proofs.Ytnakkdaeehglnaa.Kit
open Go.Maps (Keyed int_keyed keyOf_int_mk)

/-- Block b is a map of at most n entries that says of each number whether it is in S. -/
def SetAt (P : Program) (K E : TypeId) (w : World) (b n : Nat) (S : Int → Bool) : Prop :=
  ∃ D : DataW Unit, w.ownsMap P K (plainElem P E) b n D ∧ ∀ x, (Lit.int .i64 x).wf = true → D.atKey (.int .i64 x) (.lit (.bool false)) = .lit (.bool (S x))
section
variable {P : Program} {K E : TypeId} {w : World} {b n : Nat} {S : Int → Bool}
theorem plainElem_bool_inv {H : Type} {P : Program} {e : TypeId} (he : P.underlying e = some .bool) {v : Value} {z : DataW H × List MemPlace} (h : plainElem P e v = some z) : ∃ a, v = .bool a ∧ z = (.lit (.bool a), []) := by
  unfold plainElem at h
  rw [he] at h
  cases v <;> simp at h
  exact ⟨_, rfl, h.symm⟩
theorem SetAt.made (w : World) (P : Program) (K E : TypeId) : SetAt P K E (w.alloc (.map #[] 0)) w.heap.size 0 (fun _ => false) :=
  ⟨.map [], World.ownsMap_made w P K _, fun x _ => rfl⟩
theorem SetAt.lt (h : SetAt P K E w b n S) : b < w.heap.size := by
  obtain ⟨D, h, _⟩ := h
  exact h.lt
theorem SetAt.kept {w' : World} {row : Option Nat} (h : SetAt P K E w b n S) (hg : w.grownBy w' row) (hne : some b ≠ row) : SetAt P K E w' b n S := by
  obtain ⟨D, h, hS⟩ := h
  exact ⟨D, h.kept hg hne, hS⟩
theorem SetAt.below {w' : World} (h : SetAt P K E w b n S) (hb : Below w.heap.size w w') : SetAt P K E w' b n S := h.kept (grown_of_below hb none) (by simp)
theorem SetAt.drewN (h : SetAt P K E w b n S) (q : Nat) : SetAt P K E (w.drewN q) b n S := h
theorem SetAt.congr {S' : Int → Bool} (h : SetAt P K E w b n S) (hS : ∀ x, S x = S' x) : SetAt P K E w b n S' := by
  obtain ⟨D, h, h1⟩ := h
  exact ⟨D, h, fun x hx => by rw [h1 x hx, hS]⟩
theorem SetAt.look (h : SetAt P K E w b n S) {t : TypeId} (hk : P.underlying K = some (.int .i64)) (he : P.underlying E = some .bool) (ht : P.underlying t = some (.map K E)) (hz : ∀ w, (zeroValue E).run P w = .ok (.bool false) w)
    {x : Int} (hx : (Lit.int .i64 x).wf = true) : ∀ q, (Instr.lookup t (.map (some b)) (.int .i64 x) false).run P (w.drewN q) = .ok (.bool (S x)) (w.drewN q) := by
  intro q
  obtain ⟨D, h, hS⟩ := h
  have h' : (w.drewN q).ownsMap P K (plainElem P E) b n D := h
  obtain ⟨v, ps, hrun, hv⟩ := h'.lookup (int_keyed hk) ht (hz _) (plainElem_bool (H := Unit) he false) (keyOf_int_mk hk hx)
  obtain ⟨a, rfl, ha⟩ := plainElem_bool_inv he hv
  rw [hS x hx] at ha
  injection ha with ha _
  injection ha with ha
  injection ha with ha
  rw [hrun, ha]
theorem SetAt.put {w' : World} {D : DataW Unit} (hS : ∀ x, (Lit.int .i64 x).wf = true → D.atKey (.int .i64 x) (.lit (.bool false)) = .lit (.bool (S x))) (hD : Maps.IsMap D) (x : Int)
    (h : w'.ownsMap P K (plainElem P E) b n (D.put (.int .i64 x) (.lit (.bool true)))) : SetAt P K E w' b n (fun y => y == x || S y) := by
  refine ⟨_, h, fun y hy => ?_⟩
  by_cases e : y = x
  · subst e
    rw [Maps.atKey_put_same hD (by trivial)]
    simp
  · rw [Maps.atKey_put_other (by intro h2; injection h2 with _ h2; exact e h2), hS y hy]
    simp [e]
/-- 'seen[x] = true' at the operation. -/
theorem wpList_set_put {ops : Array Oper} {rest : List Oper} {o : Oper} {a : Act} {Q : Exit → Act → World → Prop} (hg : o.guard = none) (m x : Operand) (t : TypeId) (hop : o.op = Op.mapUpdate t m x (.const (.bool true)))
    (hk : P.underlying K = some (.int .i64)) (he : P.underlying E = some .bool) (ht : P.underlying t = some (.map K E)) (h : SetAt P K E w b n S) (hn : n < maxLen)
    (hm : a.eval m = .map (some b)) (x0 : Int) (hx : a.eval x = .int .i64 x0) (hwf : (Lit.int .i64 x0).wf = true)
    (hK : ∀ w', SetAt P K E w' b (n + 1) (fun y => y == x0 || S y) → w.grownBy w' (some b) → wpList P ops Q rest (a.put o.dst undef) w') : wpList P ops Q (o :: rest) a w := by
  obtain ⟨D, hD, hS⟩ := h
  refine wpList_mapUpdate_own w hg m x _ t hop K E (int_keyed hk) ht _ b n D hm hD hn _ _ (.int .i64 x0) hx rfl (keyOf_int_mk hk hwf) (.lit (.bool true)) [] (plainElem_bool he true) ?_
  intro w' h' hgr
  exact hK w' (SetAt.put hS hD.isMap x0 h') hgr
end
end Go.Proofs.Ytnakkdaeehglnaa.P

namespace Go.Proofs
open Go.Shelf
def Try.lays128_ren : Go.Shelf.Ren := ⟨fun | 128 => 71 | n => n, fun | 51 => 75 | 3 => 3 | 4 => 4 | 46 => 60 | 5 => 5 | 9 => 9 | n => n, fun | n => n⟩
theorem Try.lays128 : Go.Proofs.Lays.n128 Try.prog Try.lays128_ren := {
  mixed := by kernel_rfl
  f128 := Try.func71.trans (congrArg some (by kernel_rfl))
  t3 := Try.underlying3
  a3 := Try.isAgg3
  z3 := Try.sizeOf3
  v3 := Try.zeroValue3
  t4 := Try.underlying4
  a4 := Try.isAgg4
  z4 := Try.sizeOf4
  v4 := Try.zeroValue4
  t5 := Try.underlying5
  a5 := Try.isAgg5
  z5 := Try.sizeOf5
  v5 := Try.zeroValue5
  t9 := Try.underlying9
  a9 := Try.isAgg9
  z9 := Try.sizeOf9
  v9 := Try.zeroValue9
  t46 := Try.underlying60
  a46 := Try.isAgg60
  z46 := Try.sizeOf60
  v46 := Try.zeroValue60
  t51 := Try.underlying75
  a51 := Try.isAgg75
  z51 := Try.sizeOf75
  v51 := Try.zeroValue75 }
/-- bits.Len32: "Len32 returns the minimum number of bits required to represent x; the result is 0 for x == 0.": IT RETURNS 'Lib.bitLen x'; the world is as it was. ('h0', 'h1': x is a uint32.) (LAID: no walk: one application.) -/
theorem Try.bits_Len32 (x : Int) (w : World) (h0 : 0 ≤ x) (h1 : x ≤ 4294967295) :
    Calls Try.prog 71 #[.int .u32 x] w fun e w' => e = .returned (.int .i64 (Lib.bitLen x.toNat)) ∧ w' = w := Any.bits_Len32 Try.lays128 x w h0 h1
def Try.lays125_ren : Go.Shelf.Ren := ⟨fun | 125 => 59 | 128 => 71 | 129 => 72 | n => n, fun | 46 => 60 | 3 => 3 | 51 => 75 | 53 => 77 | 4 => 4 | 5 => 5 | 9 => 9 | n => n, fun | n => n⟩
theorem Try.lays125 : Go.Proofs.Lays.n125 Try.prog Try.lays125_ren := {
  mixed := by kernel_rfl
  f125 := Try.func59.trans (congrArg some (by kernel_rfl))
  f128 := Try.func71.trans (congrArg some (by kernel_rfl))
  f129 := Try.func72.trans (congrArg some (by kernel_rfl))
  t3 := Try.underlying3
  a3 := Try.isAgg3
  z3 := Try.sizeOf3
  v3 := Try.zeroValue3
  t4 := Try.underlying4
  a4 := Try.isAgg4
  z4 := Try.sizeOf4
  v4 := Try.zeroValue4
  t5 := Try.underlying5
  a5 := Try.isAgg5
  z5 := Try.sizeOf5
  v5 := Try.zeroValue5
  t9 := Try.underlying9
  a9 := Try.isAgg9
  z9 := Try.sizeOf9
  v9 := Try.zeroValue9
  t46 := Try.underlying60
  a46 := Try.isAgg60
  z46 := Try.sizeOf60
  v46 := Try.zeroValue60
  t51 := Try.underlying75
  a51 := Try.isAgg75
  z51 := Try.sizeOf75
  v51 := Try.zeroValue75
  t53 := Try.underlying77
  a53 := Try.isAgg77
  z53 := Try.sizeOf77
  v53 := Try.zeroValue77 }
/-- bits.Len: "Len returns the minimum number of bits required to represent x; the result is 0 for x == 0.": IT RETURNS 'Lib.bitLen x'; the world is as it was. (A uint has 64 bits in the model.) ITS CALLEE bits.Len64 IS MET BY ITS OWN CONTRACT OFF THE SHELF (lay that first). (LAID: no walk: one application.) -/
theorem Try.bits_Len (x : Int) (w : World) (h0 : 0 ≤ x) (h1 : x ≤ 18446744073709551615) :
    Calls Try.prog 59 #[.int .u64 x] w fun e w' => e = .returned (.int .i64 (Lib.bitLen x.toNat)) ∧ w' = w := Any.bits_Len Try.lays125 x w h0 h1
def Try.lays129_ren : Go.Shelf.Ren := ⟨fun | 129 => 72 | n => n, fun | 53 => 77 | 3 => 3 | 4 => 4 | 46 => 60 | 5 => 5 | 9 => 9 | n => n, fun | n => n⟩
theorem Try.lays129 : Go.Proofs.Lays.n129 Try.prog Try.lays129_ren := {
  mixed := by kernel_rfl
  f129 := Try.func72.trans (congrArg some (by kernel_rfl))
  t3 := Try.underlying3
  a3 := Try.isAgg3
  z3 := Try.sizeOf3
  v3 := Try.zeroValue3
  t4 := Try.underlying4
  a4 := Try.isAgg4
  z4 := Try.sizeOf4
  v4 := Try.zeroValue4
  t5 := Try.underlying5
  a5 := Try.isAgg5
  z5 := Try.sizeOf5
  v5 := Try.zeroValue5
  t9 := Try.underlying9
  a9 := Try.isAgg9
  z9 := Try.sizeOf9
  v9 := Try.zeroValue9
  t46 := Try.underlying60
  a46 := Try.isAgg60
  z46 := Try.sizeOf60
  v46 := Try.zeroValue60
  t53 := Try.underlying77
  a53 := Try.isAgg77
  z53 := Try.sizeOf77
  v53 := Try.zeroValue77 }
/-- bits.Len64: "Len64 returns the minimum number of bits required to represent x; the result is 0 for x == 0.": IT RETURNS 'Lib.bitLen x'; the world is as it was. ('h0', 'h1': x is a uint64.) (LAID: no walk: one application.) -/
theorem Try.bits_Len64 (x : Int) (w : World) (h0 : 0 ≤ x) (h1 : x ≤ 18446744073709551615) :
    Calls Try.prog 72 #[.int .u64 x] w fun e w' => e = .returned (.int .i64 (Lib.bitLen x.toNat)) ∧ w' = w := Any.bits_Len64 Try.lays129 x w h0 h1
def Try.lays189_ren : Go.Shelf.Ren := ⟨fun | 189 => 68 | 125 => 59 | 257 => 77 | 128 => 71 | 129 => 72 | 294 => 80 | 295 => 81 | 296 => 82 | 297 => 83 | 298 => 84 | 299 => 85 | 216 => 86 | 300 => 87 | 301 => 88 | 328 => 91 | 329 => 92 | 330 => 93 | 331 => 94 | 332 => 95 | 215 => 75 | 343 => 96 | n => n, fun | 28 => 22 | 3 => 3 | 46 => 60 | 0 => 0 | 51 => 75 | 53 => 77 | 4 => 4 | 183 => 84 | 182 => 83 | 131 => 88 | 5 => 5 | 9 => 9 | 218 => 90 | 222 => 94 | 228 => 96 | 229 => 97 | n => n, fun | n => n⟩
theorem Try.lays189 : Go.Proofs.Lays.n189 Try.prog Try.lays189_ren := {
  mixed := by kernel_rfl
  f125 := Try.func59.trans (congrArg some (by kernel_rfl))
  f128 := Try.func71.trans (congrArg some (by kernel_rfl))
  f129 := Try.func72.trans (congrArg some (by kernel_rfl))
  f189 := Try.func68.trans (congrArg some (by kernel_rfl))
  f215 := Try.func75.trans (congrArg some (by kernel_rfl))
  f216 := Try.func86.trans (congrArg some (by kernel_rfl))
  f257 := Try.func77.trans (congrArg some (by kernel_rfl))
  f294 := Try.func80.trans (congrArg some (by kernel_rfl))
  f295 := Try.func81.trans (congrArg some (by kernel_rfl))
  f296 := Try.func82.trans (congrArg some (by kernel_rfl))
  f297 := Try.func83.trans (congrArg some (by kernel_rfl))
  f298 := Try.func84.trans (congrArg some (by kernel_rfl))
  f299 := Try.func85.trans (congrArg some (by kernel_rfl))
  f300 := Try.func87.trans (congrArg some (by kernel_rfl))
  f301 := Try.func88.trans (congrArg some (by kernel_rfl))
  f328 := Try.func91.trans (congrArg some (by kernel_rfl))
  f329 := Try.func92.trans (congrArg some (by kernel_rfl))
  f330 := Try.func93.trans (congrArg some (by kernel_rfl))
  f331 := Try.func94.trans (congrArg some (by kernel_rfl))
  f332 := Try.func95.trans (congrArg some (by kernel_rfl))
  f343 := Try.func96.trans (congrArg some (by kernel_rfl))
  t0 := Try.underlying0
  a0 := Try.isAgg0
  z0 := Try.sizeOf0
  v0 := Try.zeroValue0
  t3 := Try.underlying3
  a3 := Try.isAgg3
  z3 := Try.sizeOf3
  v3 := Try.zeroValue3
  t4 := Try.underlying4
  a4 := Try.isAgg4
  z4 := Try.sizeOf4
  v4 := Try.zeroValue4
  t5 := Try.underlying5
  a5 := Try.isAgg5
  z5 := Try.sizeOf5
  v5 := Try.zeroValue5
  t9 := Try.underlying9
  a9 := Try.isAgg9
  z9 := Try.sizeOf9
  v9 := Try.zeroValue9
  t28 := Try.underlying22
  a28 := Try.isAgg22
  z28 := Try.sizeOf22
  v28 := Try.zeroValue22
  t46 := Try.underlying60
  a46 := Try.isAgg60
  z46 := Try.sizeOf60
  v46 := Try.zeroValue60
  t51 := Try.underlying75
  a51 := Try.isAgg75
  z51 := Try.sizeOf75
  v51 := Try.zeroValue75
  t53 := Try.underlying77
  a53 := Try.isAgg77
  z53 := Try.sizeOf77
  v53 := Try.zeroValue77
  t131 := Try.underlying88
  a131 := Try.isAgg88
  z131 := Try.sizeOf88
  v131 := Try.zeroValue88
  t182 := Try.underlying83
  a182 := Try.isAgg83
  z182 := Try.sizeOf83
  v182 := Try.zeroValue83
  t183 := Try.underlying84
  a183 := Try.isAgg84
  z183 := Try.sizeOf84
  v183 := Try.zeroValue84
  t218 := Try.underlying90
  a218 := Try.isAgg90
  z218 := Try.sizeOf90
  v218 := Try.zeroValue90
  t222 := Try.underlying94
  a222 := Try.isAgg94
  z222 := Try.sizeOf94
  v222 := Try.zeroValue94
  t228 := Try.underlying96
  a228 := Try.isAgg96
  z228 := Try.sizeOf96
  v228 := Try.zeroValue96
  t229 := Try.underlying97
  a229 := Try.isAgg97
  z229 := Try.sizeOf97
  v229 := Try.zeroValue97 }
open Go.Sort Go.RowKit in
theorem Try.slices_Sort_int (blk off cap : Nat) (zs : List Int) (w : World) (hH : Holds (Value.int .i64) w blk off zs.toArray) (hblk : blk < w.heap.size) (hsz : zs.length < 4611686018427387904) :
    Calls Try.prog 68 #[.slice (some ⟨blk, off, none⟩) zs.length cap] w fun e w' =>
      e = .returned (.tuple #[]) ∧ ∃ n os, w' = grow (putRow (Value.int .i64) (Sort.ahead w n) blk off (zs.mergeSort fun x y => decide (x ≤ y)).toArray) os := Any.slices_Sort_int Try.lays189 blk off cap zs w hH hblk hsz
def Try.lays111_ren : Go.Shelf.Ren := ⟨fun | 111 => 55 | n => n, fun | 28 => 22 | 3 => 3 | 4 => 4 | 0 => 0 | n => n, fun | n => n⟩
theorem Try.lays111 : Go.Proofs.Lays.n111 Try.prog Try.lays111_ren := {
  mixed := by kernel_rfl
  f111 := Try.func55.trans (congrArg some (by kernel_rfl))
  t0 := Try.underlying0
  a0 := Try.isAgg0
  z0 := Try.sizeOf0
  v0 := Try.zeroValue0
  t3 := Try.underlying3
  a3 := Try.isAgg3
  z3 := Try.sizeOf3
  v3 := Try.zeroValue3
  t4 := Try.underlying4
  a4 := Try.isAgg4
  z4 := Try.sizeOf4
  v4 := Try.zeroValue4
  t28 := Try.underlying22
  a28 := Try.isAgg22
  z28 := Try.sizeOf22
  v28 := Try.zeroValue22 }
open Go.RowKit Go.Lib in
/-- slices.Equal at []int: "Equal reports whether two slices are equal: the same length and all elements equal. If the lengths are different, Equal returns false. Otherwise, the elements are compared in increasing index order, and the comparison stops at the first unequal pair. Empty and nil slices are considered equal.": IT RETURNS WHETHER THE TWO LISTS OF ELEMENTS ARE ONE; the world is as it was but for the count of draws (the test 's1[i] != s2[i]' has two reads, whose order the model draws, once a round). 'xs', 'ys': what the cells behind the two addresses hold (the spare capacity too, if you have it); 'xs.take n', 'ys.take m': the elements. THE TWO SLICES MAY OVERLAP. (LAID: no walk: one application.) -/
theorem Try.slices_Equal_int (b1 o1 n c b2 o2 m d : Nat) (xs ys : List Int) (w : World) (hx : n ≤ xs.length) (hy : m ≤ ys.length) (hbig : n ≤ 9223372036854775807) (hbig2 : m ≤ 9223372036854775807) (hc1 : ∀ j, j < xs.length → w.cell? ⟨b1, o1 + j, none⟩ = some (.int .i64 (xs.getD j 0))) (hc2 : ∀ j, j < ys.length → w.cell? ⟨b2, o2 + j, none⟩ = some (.int .i64 (ys.getD j 0))) :
    Calls Try.prog 55 #[.slice (some ⟨b1, o1, none⟩) n c, .slice (some ⟨b2, o2, none⟩) m d] w fun e w' => e = .returned (.bool (xs.take n == ys.take m)) ∧ ∃ q, w' = w.drewN q := Any.slices_Equal_int Try.lays111 b1 o1 n c b2 o2 m d xs ys w hx hy hbig hbig2 hc1 hc2
open Go.RowKit Go.Lib in
/-- The same where the first is of length 0 (a nil one too): no cell is asked for. (LAID: no walk: one application.) -/
theorem Try.slices_Equal_int_empty (a1 a2 : Option Addr) (c m d : Nat) (w : World) (hbig2 : m ≤ 9223372036854775807) :
    Calls Try.prog 55 #[.slice a1 0 c, .slice a2 m d] w fun e w' => e = .returned (.bool (decide (m = 0))) ∧ w' = w := Any.slices_Equal_int_empty Try.lays111 a1 a2 c m d w hbig2
def Try.laysNm215_ren : Go.Shelf.Ren := ⟨fun | 15 => 44 | n => n, fun | 22 => 22 | 3 => 3 | 4 => 4 | n => n, fun | n => n⟩
theorem Try.laysNm215 : Go.Proofs.Lays2.n15 Try.prog Try.laysNm215_ren := {
  mixed := by kernel_rfl
  f15 := Try.func44.trans (congrArg some (by kernel_rfl))
  t3 := Try.underlying3
  a3 := Try.isAgg3
  z3 := Try.sizeOf3
  v3 := Try.zeroValue3
  t4 := Try.underlying4
  a4 := Try.isAgg4
  z4 := Try.sizeOf4
  v4 := Try.zeroValue4
  t22 := Try.underlying22
  a22 := Try.isAgg22
  z22 := Try.sizeOf22
  v22 := Try.zeroValue22
  i3 := by kernel_rfl }
open Go.RowKit Go.Lib in
/-- slices.Clone at []int: "Clone returns a copy of the slice. The elements are copied using assignment, so this is a shallow clone. The result may have additional unused capacity. The result preserves the nilness of s.": OF A SLICE THAT IS NOT nil IT RETURNS A SLICE THAT IS NOT nil, OF THE SAME ELEMENTS, IN MEMORY OF THE CALL's OWN: in the how-to's words (6f): 'w'.ownsRow B e 1 v' n cells': v' begins at the head of a row among the blocks from B on (B: the heap's size at the call), not frozen, whose first cells are the elements · 'Below B w w'': below B all is as it was. The capacity is whatever the run-time gives. 'zs': what the cells behind the slice's address hold; 'zs.take n': its elements. (LAID: no walk: one application.) -/
theorem Try.slices_Clone_int (b off n c : Nat) (zs : List Int) (w : World) (hz : n ≤ zs.length) (hbig : n * 8 ≤ 140737488355328) (hc : ∀ j, j < zs.length → w.cell? ⟨b, off + j, none⟩ = some (.int .i64 (zs.getD j 0))) :
    Calls Try.prog 44 #[.slice (some ⟨b, off, none⟩) n c] w fun e w' => ∃ v', e = .returned v' ∧ w'.ownsRow w.heap.size 3 1 v' n ((zs.take n).map (Value.int .i64)) ∧ v' ≠ .slice none 0 0 ∧ Below w.heap.size w w' := Any.slices_Clone_int Try.laysNm215 b off n c zs w hz hbig hc
open Go.RowKit Go.Lib in
/-- The same at nil: nil comes back; the world is as it was. (LAID: no walk: one application.) -/
theorem Try.slices_Clone_int_nil (n c : Nat) (w : World) :
    Calls Try.prog 44 #[.slice none n c] w fun e w' => e = .returned (.slice none 0 0) ∧ w' = w := Any.slices_Clone_int_nil Try.laysNm215 n c w
open Go.RowKit Go.Lib in
/-- The same at a slice of length 0 that is not nil, WHATEVER ITS ADDRESS (no cell is asked for): a slice that is not nil and owns nothing comes back. (LAID: no walk: one application.) -/
theorem Try.slices_Clone_int_zero (a : Addr) (c : Nat) (w : World) :
    Calls Try.prog 44 #[.slice (some a) 0 c] w fun e w' => ∃ v', e = .returned v' ∧ w'.ownsRow w.heap.size 3 1 v' 0 [] ∧ v' ≠ .slice none 0 0 ∧ Below w.heap.size w w' := Any.slices_Clone_int_zero Try.laysNm215 a c w
def Try.laysNm237_ren : Go.Shelf.Ren := ⟨fun | 37 => 75 | n => n, fun | 3 => 3 | 4 => 4 | n => n, fun | n => n⟩
theorem Try.laysNm237 : Go.Proofs.Lays2.n37 Try.prog Try.laysNm237_ren := {
  mixed := by kernel_rfl
  f37 := Try.func75.trans (congrArg some (by kernel_rfl))
  t3 := Try.underlying3
  a3 := Try.isAgg3
  z3 := Try.sizeOf3
  v3 := Try.zeroValue3
  t4 := Try.underlying4
  a4 := Try.isAgg4
  z4 := Try.sizeOf4
  v4 := Try.zeroValue4 }
open Go.RowKit Go.Lib in
/-- cmp.isNaN[int]: 'x != x': false. (LAID: no walk: one application.) -/
theorem Try.cmp_isNaN_int2 (x : Int) (w : World) :
    Calls Try.prog 75 #[.int .i64 x] w fun e w' => e = .returned (.bool false) ∧ w' = w := Any.cmp_isNaN_int2 Try.laysNm237 x w
def Try.laysNm231_ren : Go.Shelf.Ren := ⟨fun | 31 => 86 | 37 => 75 | n => n, fun | 3 => 3 | 4 => 4 | n => n, fun | n => n⟩
theorem Try.laysNm231 : Go.Proofs.Lays2.n31 Try.prog Try.laysNm231_ren := {
  mixed := by kernel_rfl
  f31 := Try.func86.trans (congrArg some (by kernel_rfl))
  f37 := Try.func75.trans (congrArg some (by kernel_rfl))
  t3 := Try.underlying3
  a3 := Try.isAgg3
  z3 := Try.sizeOf3
  v3 := Try.zeroValue3
  t4 := Try.underlying4
  a4 := Try.isAgg4
  z4 := Try.sizeOf4
  v4 := Try.zeroValue4 }
open Go.RowKit Go.Lib in
/-- cmp.Less[int]: "Less reports whether x is less than y.": 'x < y'; the world is as it was. (LAID: no walk: one application.) -/
theorem Try.cmp_Less_int2 (x y : Int) (w : World) :
    Calls Try.prog 86 #[.int .i64 x, .int .i64 y] w fun e w' => e = .returned (.bool (decide (x < y))) ∧ w' = w := Any.cmp_Less_int2 Try.laysNm231 x y w
open Go.RowKit Go.Sort in
/-- .. and plain. (LAID: no walk: one application.) -/
theorem Try.slices_Sort_int_none (p : Option Addr) (cap : Nat) (w : World) :
    Calls Try.prog 68 #[.slice p 0 cap] w fun e w' => e = .returned (.tuple #[]) ∧ w' = w := Any.slices_Sort_int_none Try.lays189 p cap w
def Try.laysSlE33_f55_ren : Go.Shelf.Ren := ⟨fun | 33 => 55 | n => n, fun | 22 => 22 | 23 => 3 | 4 => 4 | 3 => 3 | 0 => 0 | n => n, fun | n => n⟩
theorem Try.laysSlE33_f55 : Go.Proofs.SlLaysE.n33 Try.prog Try.laysSlE33_f55_ren := {
  mixed := by kernel_rfl
  f33 := ⟨Try.f55.name, by decide, Try.func55.trans (congrArg some (by kernel_rfl))⟩
  t0 := Try.underlying0
  a0 := Try.isAgg0
  z0 := Try.sizeOf0
  v0 := Try.zeroValue0
  t3 := Try.underlying3
  a3 := Try.isAgg3
  z3 := Try.sizeOf3
  v3 := Try.zeroValue3
  t4 := Try.underlying4
  a4 := Try.isAgg4
  z4 := Try.sizeOf4
  v4 := Try.zeroValue4
  t22 := Try.underlying22
  a22 := Try.isAgg22
  z22 := Try.sizeOf22
  v22 := Try.zeroValue22
  a23 := Try.isAgg3
  z23 := Try.sizeOf3 }
open Go.RowKit Go.Lib in
/-- slices.Equal: "Equal reports whether two slices are equal: the same length and all elements equal. .. Empty and nil slices are considered equal. Floating point NaNs are not considered equal.": IT RETURNS 'Lib.allEq eq (the one's elements) (the other's)'; the world is as it was but for the count of draws. (LAID AT THE INSTANCE 'slices.Equal[[]int,int]': no walk: one application.) -/
theorem Try.slices_Equal {α : Type} [Inhabited α] (enc : α → Value) (eq : α → α → Bool) (hne : NeqAt Try.prog 3 enc eq) (b1 o1 n c b2 o2 m d : Nat) (xs ys : List α) (w : World) (hx : n ≤ xs.length) (hy : m ≤ ys.length) (hbig : n ≤ 9223372036854775807) (hbig2 : m ≤ 9223372036854775807) (hc1 : ∀ j, j < xs.length → w.cell? ⟨b1, o1 + j, none⟩ = some (enc xs[j]!)) (hc2 : ∀ j, j < ys.length → w.cell? ⟨b2, o2 + j, none⟩ = some (enc ys[j]!)) :
    Calls Try.prog 55 #[.slice (some ⟨b1, o1, none⟩) n c, .slice (some ⟨b2, o2, none⟩) m d] w fun e w' => e = .returned (.bool (Lib.allEq eq (xs.take n) (ys.take m))) ∧ ∃ q, w' = w.drewN q := AnyE.slices_Equal Try.laysSlE33_f55 enc eq hne b1 o1 n c b2 o2 m d xs ys w hx hy hbig hbig2 hc1 hc2
def Try.laysSlE041_f44_ren : Go.Shelf.Ren := ⟨fun | 41 => 44 | n => n, fun | 22 => 22 | 23 => 3 | 4 => 4 | n => n, fun | n => n⟩
theorem Try.laysSlE041_f44 : Go.Proofs.SlLaysE0.n41 Try.prog Try.laysSlE041_f44_ren := {
  mixed := by kernel_rfl
  f41 := ⟨Try.f44.name, by decide, Try.func44.trans (congrArg some (by kernel_rfl))⟩
  t4 := Try.underlying4
  a4 := Try.isAgg4
  z4 := Try.sizeOf4
  v4 := Try.zeroValue4
  t22 := Try.underlying22
  a22 := Try.isAgg22
  z22 := Try.sizeOf22
  v22 := Try.zeroValue22 }
open Go.RowKit Go.Lib in
/-- slices.Clone: "Clone returns a copy of the slice. The elements are copied using assignment, so this is a shallow clone. The result may have additional unused capacity. The result preserves the nilness of s.": OF A SLICE THAT IS NOT nil IT RETURNS A SLICE THAT IS NOT nil, OF THE SAME CELLS, IN MEMORY OF THE CALL's OWN ('ownsRow': the how-to's 6f); below the heap's size at the call all is as it was. (LAID AT THE INSTANCE 'slices.Clone[[]int,int]': no walk: one application.) -/
theorem Try.slices_Clone (i0 : TypeInfo) (z : Value) (size bytes : Nat) (hi : Try.prog.info? 3 = some i0) (hz0 : i0.zero = some z) (hz1 : i0.size = size) (hz2 : i0.bytes = bytes) (hzs : z.cells.size = size) (hsz : 0 < size) (z23 : ∀ w, (Go.sizeOf 3).run Try.prog w = .ok size w) (b off n c : Nat) (news : List Value) (w : World) (hl : news.length = n * size) (hn : n ≤ maxLen) (hbig : n * bytes ≤ 140737488355328) (hc : ∀ j u, news[j]? = some u → w.cell? ⟨b, off + j, none⟩ = some u) (h1 : ∀ u ∈ news, u.oneCell' = true) :
    Calls Try.prog 44 #[.slice (some ⟨b, off, none⟩) n c] w fun e w' => ∃ v', e = .returned v' ∧ w'.ownsRow w.heap.size 3 size v' n news ∧ v' ≠ .slice none 0 0 ∧ Below w.heap.size w w' := AnyE.slices_Clone Try.laysSlE041_f44 i0 z size bytes hi hz0 hz1 hz2 hzs hsz z23 b off n c news w hl hn hbig hc h1
open Go.RowKit Go.Lib in
/-- The same at nil: nil comes back; the world is as it was; nothing is asked of the element's type. (LAID AT THE INSTANCE 'slices.Clone[[]int,int]': no walk: one application.) -/
theorem Try.slices_Clone_nil (n c : Nat) (w : World) :
    Calls Try.prog 44 #[.slice none n c] w fun e w' => e = .returned (.slice none 0 0) ∧ w' = w := AnyE.slices_Clone_nil Try.laysSlE041_f44 n c w
def Try.laysSlH6_f76_ren : Go.Shelf.Ren := ⟨fun | 6 => 76 | n => n, fun | 22 => 22 | 23 => 3 | 25 => 28 | 3 => 3 | 0 => 0 | 4 => 4 | n => n, fun | n => n⟩
theorem Try.laysSlH6_f76 : Go.Proofs.SlLaysH.n6 Try.prog Try.laysSlH6_f76_ren := {
  mixed := by kernel_rfl
  f6 := ⟨Try.f76.name, by decide, Try.func76.trans (congrArg some (by kernel_rfl))⟩
  t0 := Try.underlying0
  a0 := Try.isAgg0
  z0 := Try.sizeOf0
  v0 := Try.zeroValue0
  t3 := Try.underlying3
  a3 := Try.isAgg3
  z3 := Try.sizeOf3
  v3 := Try.zeroValue3
  t4 := Try.underlying4
  a4 := Try.isAgg4
  z4 := Try.sizeOf4
  v4 := Try.zeroValue4
  t22 := Try.underlying22
  a22 := Try.isAgg22
  z22 := Try.sizeOf22
  v22 := Try.zeroValue22
  a23 := Try.isAgg3
  z23 := Try.sizeOf3
  t25 := Try.underlying28
  a25 := Try.isAgg28
  z25 := Try.sizeOf28
  v25 := Try.zeroValue28 }
open Go.RowKit Go.Lib in
/-- slices.IndexFunc: "IndexFunc returns the first index i satisfying f(s[i]), or -1 if none do." (LAID AT THE INSTANCE 'slices.IndexFunc[[]int,int]': no walk: one application.) -/
theorem Try.slices_IndexFunc {α : Type} [Inhabited α] (enc : α → Value) (p : α → Bool) (g : Nat) (lb : Array Value) (eg : ∀ args w, (callFunc g args).run Try.prog w = .ok (.enter g args) w) (b off n c : Nat) (zs : List α) (w : World) (hp : PredAt Try.prog g lb enc p w) (hz : n ≤ zs.length) (hbig : n ≤ 9223372036854775807) (hc : ∀ j, j < zs.length → w.cell? ⟨b, off + j, none⟩ = some (enc zs[j]!)) :
    Calls Try.prog 76 #[.slice (some ⟨b, off, none⟩) n c, .func (.func g) #[] lb] w fun e w' => e = .returned (.int .i64 (Lib.idxBy (fun _ y => p y) (zs.take n) default)) ∧ ∃ q, w' = w.drewN q := AnyE.slices_IndexFunc Try.laysSlH6_f76 enc p g lb eg b off n c zs w hp hz hbig hc
open Go.RowKit Go.Lib in
/-- The same at a slice of length 0, a nil one too: the predicate is not called: nothing is asked of it. (LAID AT THE INSTANCE 'slices.IndexFunc[[]int,int]': no walk: one application.) -/
theorem Try.slices_IndexFunc_empty {α : Type} [Inhabited α] (a : Option Addr) (c : Nat) (fv : Value) (w : World) :
    Calls Try.prog 76 #[.slice a 0 c, fv] w fun e w' => e = .returned (.int .i64 (-1)) ∧ w' = w := AnyE.slices_IndexFunc_empty Try.laysSlH6_f76 a c fv w
def Try.laysSlH8_f65_ren : Go.Shelf.Ren := ⟨fun | 8 => 65 | 6 => 76 | n => n, fun | 22 => 22 | 23 => 3 | 25 => 28 | 4 => 4 | 3 => 3 | 0 => 0 | n => n, fun | n => n⟩
theorem Try.laysSlH8_f65 : Go.Proofs.SlLaysH.n8 Try.prog Try.laysSlH8_f65_ren := {
  mixed := by kernel_rfl
  f6 := ⟨Try.f76.name, by decide, Try.func76.trans (congrArg some (by kernel_rfl))⟩
  f8 := ⟨Try.f65.name, by decide, Try.func65.trans (congrArg some (by kernel_rfl))⟩
  t0 := Try.underlying0
  a0 := Try.isAgg0
  z0 := Try.sizeOf0
  v0 := Try.zeroValue0
  t3 := Try.underlying3
  a3 := Try.isAgg3
  z3 := Try.sizeOf3
  v3 := Try.zeroValue3
  t4 := Try.underlying4
  a4 := Try.isAgg4
  z4 := Try.sizeOf4
  v4 := Try.zeroValue4
  t22 := Try.underlying22
  a22 := Try.isAgg22
  z22 := Try.sizeOf22
  v22 := Try.zeroValue22
  a23 := Try.isAgg3
  z23 := Try.sizeOf3
  t25 := Try.underlying28
  a25 := Try.isAgg28
  z25 := Try.sizeOf28
  v25 := Try.zeroValue28 }
open Go.RowKit Go.Lib in
/-- slices.ContainsFunc: "ContainsFunc reports whether at least one element e of s satisfies f(e).": ITS CALLEE slices.IndexFunc IS MET BY ITS OWN CONTRACT. (LAID AT THE INSTANCE 'slices.ContainsFunc[[]int,int]': no walk: one application.) -/
theorem Try.slices_ContainsFunc {α : Type} [Inhabited α] (enc : α → Value) (p : α → Bool) (g : Nat) (lb : Array Value) (eg : ∀ args w, (callFunc g args).run Try.prog w = .ok (.enter g args) w) (b off n c : Nat) (zs : List α) (w : World) (hp : PredAt Try.prog g lb enc p w) (hz : n ≤ zs.length) (hbig : n ≤ 9223372036854775807) (hc : ∀ j, j < zs.length → w.cell? ⟨b, off + j, none⟩ = some (enc zs[j]!)) :
    Calls Try.prog 65 #[.slice (some ⟨b, off, none⟩) n c, .func (.func g) #[] lb] w fun e w' => e = .returned (.bool ((zs.take n).any p)) ∧ ∃ q, w' = w.drewN q := AnyE.slices_ContainsFunc Try.laysSlH8_f65 enc p g lb eg b off n c zs w hp hz hbig hc
open Go.RowKit Go.Lib in
/-- The same at a slice of length 0, a nil one too. (LAID AT THE INSTANCE 'slices.ContainsFunc[[]int,int]': no walk: one application.) -/
theorem Try.slices_ContainsFunc_empty {α : Type} [Inhabited α] (a : Option Addr) (c : Nat) (fv : Value) (w : World) :
    Calls Try.prog 65 #[.slice a 0 c, fv] w fun e w' => e = .returned (.bool false) ∧ w' = w := AnyE.slices_ContainsFunc_empty Try.laysSlH8_f65 a c fv w
end Go.Proofs

namespace Go.Proofs.Ytnakkdaeehglnaa.Kit
open Go.Lib
set_option linter.unusedVariables false

def cat8 (b0 b1 b2 b3 b4 b5 b6 b7 : Nat) : Nat := b0 + 256 * (b1 + 256 * (b2 + 256 * (b3 + 256 * (b4 + 256 * (b5 + 256 * (b6 + 256 * b7))))))
theorem and_cat (a m A M : Nat) (ha : a < 256) (hm : m < 256) : (a + 256 * A) &&& (m + 256 * M) = (a &&& m) + 256 * (A &&& M) := by
  have h1 : ((a + 256 * A) &&& (m + 256 * M)) % 2 ^ 8 = (a &&& m) := by
    rw [Nat.and_mod_two_pow, show (a + 256 * A) % 2 ^ 8 = a from by simp only [Nat.reducePow]; omega, show (m + 256 * M) % 2 ^ 8 = m from by simp only [Nat.reducePow]; omega]
  have h2 : ((a + 256 * A) &&& (m + 256 * M)) / 2 ^ 8 = (A &&& M) := by
    rw [Nat.and_div_two_pow, show (a + 256 * A) / 2 ^ 8 = A from by simp only [Nat.reducePow]; omega, show (m + 256 * M) / 2 ^ 8 = M from by simp only [Nat.reducePow]; omega]
  have h3 := Nat.div_add_mod ((a + 256 * A) &&& (m + 256 * M)) (2 ^ 8)
  rw [h1, h2] at h3
  simp only [Nat.reducePow] at h3
  omega
theorem and_cat8 (a0 a1 a2 a3 a4 a5 a6 a7 m0 m1 m2 m3 m4 m5 m6 m7 : Nat) (h0 : a0 < 256) (h1 : a1 < 256) (h2 : a2 < 256) (h3 : a3 < 256) (h4 : a4 < 256) (h5 : a5 < 256) (h6 : a6 < 256)
    (k0 : m0 < 256) (k1 : m1 < 256) (k2 : m2 < 256) (k3 : m3 < 256) (k4 : m4 < 256) (k5 : m5 < 256) (k6 : m6 < 256) :
    cat8 a0 a1 a2 a3 a4 a5 a6 a7 &&& cat8 m0 m1 m2 m3 m4 m5 m6 m7 = cat8 (a0 &&& m0) (a1 &&& m1) (a2 &&& m2) (a3 &&& m3) (a4 &&& m4) (a5 &&& m5) (a6 &&& m6) (a7 &&& m7) := by
  unfold cat8
  rw [and_cat _ _ _ _ h0 k0, and_cat _ _ _ _ h1 k1, and_cat _ _ _ _ h2 k2, and_cat _ _ _ _ h3 k3, and_cat _ _ _ _ h4 k4, and_cat _ _ _ _ h5 k5, and_cat _ _ _ _ h6 k6]
theorem cat8_of (x : Nat) (hx : x < 18446744073709551616) : ∃ b0 b1 b2 b3 b4 b5 b6 b7, b0 < 256 ∧ b1 < 256 ∧ b2 < 256 ∧ b3 < 256 ∧ b4 < 256 ∧ b5 < 256 ∧ b6 < 256 ∧ b7 < 256 ∧ x = cat8 b0 b1 b2 b3 b4 b5 b6 b7 :=
  ⟨x % 256, x / 256 % 256, x / 65536 % 256, x / 16777216 % 256, x / 4294967296 % 256, x / 1099511627776 % 256, x / 281474976710656 % 256, x / 72057594037927936, by omega, by omega, by omega, by omega, by omega, by omega, by omega, by omega, by unfold cat8; omega⟩
theorem cat8_lt (b0 b1 b2 b3 b4 b5 b6 b7 : Nat) (h0 : b0 < 256) (h1 : b1 < 256) (h2 : b2 < 256) (h3 : b3 < 256) (h4 : b4 < 256) (h5 : b5 < 256) (h6 : b6 < 256) (h7 : b7 < 256) : cat8 b0 b1 b2 b3 b4 b5 b6 b7 < 18446744073709551616 := by
  unfold cat8
  omega
theorem cat8_lt68 (b0 b1 b2 b3 b4 b5 b6 b7 : Nat) (h0 : b0 ≤ 68) (h1 : b1 ≤ 68) (h2 : b2 ≤ 68) (h3 : b3 ≤ 68) (h4 : b4 ≤ 68) (h5 : b5 ≤ 68) (h6 : b6 ≤ 68) (h7 : b7 ≤ 68) : cat8 b0 b1 b2 b3 b4 b5 b6 b7 < 9223372036854775808 := by
  unfold cat8
  omega
theorem lt63a {y : Nat} (h : y < 9223372036854775808) : y < 18446744073709551616 := by omega
theorem lt63b {y : Nat} (h : y < 9223372036854775808) : y / 16 + y < 18446744073709551616 := by omega
def g1 (b : Nat) : Nat := (b / 2 &&& 85) + (b &&& 85)
def g2 (b : Nat) : Nat := (b / 4 &&& 51) + (b &&& 51)
def g3 (b : Nat) : Nat := (b / 16 + b) % 16
theorem g_fin : ∀ b : Fin 256, g3 (g2 (g1 b.val)) = popAux 8 b.val ∧ g1 b.val < 256 ∧ g2 (g1 b.val) ≤ 68 ∧ g2 (g1 b.val) % 16 ≤ 4 ∧ popAux 8 b.val ≤ 8 := by decide +kernel
theorem m1_fin : ∀ b : Fin 256, (b.val / 2 + 128 * 0 &&& 85) = (b.val / 2 &&& 85) ∧ (b.val / 2 + 128 * 1 &&& 85) = (b.val / 2 &&& 85) := by decide +kernel
theorem m2_fin : ∀ b : Fin 256, (b.val / 4 + 64 * 0 &&& 51) = (b.val / 4 &&& 51) ∧ (b.val / 4 + 64 * 1 &&& 51) = (b.val / 4 &&& 51) ∧ (b.val / 4 + 64 * 2 &&& 51) = (b.val / 4 &&& 51) ∧ (b.val / 4 + 64 * 3 &&& 51) = (b.val / 4 &&& 51) := by decide +kernel
theorem m1 (b c : Nat) (h : b < 256) : (b / 2 + 128 * (c % 2) &&& 85) = (b / 2 &&& 85) := by
  have hc : c % 2 = 0 ∨ c % 2 = 1 := by omega
  rcases hc with hc | hc <;> rw [hc]
  · exact (m1_fin ⟨b, h⟩).1
  · exact (m1_fin ⟨b, h⟩).2
theorem m2 (b c : Nat) (h : b < 256) : (b / 4 + 64 * (c % 4) &&& 51) = (b / 4 &&& 51) := by
  have hc : c % 4 = 0 ∨ c % 4 = 1 ∨ c % 4 = 2 ∨ c % 4 = 3 := by omega
  rcases hc with hc | hc | hc | hc <;> rw [hc]
  · exact (m2_fin ⟨b, h⟩).1
  · exact (m2_fin ⟨b, h⟩).2.1
  · exact (m2_fin ⟨b, h⟩).2.2.1
  · exact (m2_fin ⟨b, h⟩).2.2.2
theorem and_le255 (a m : Nat) : (a &&& m) ≤ m := Nat.and_le_right
theorem stage1 (b0 b1 b2 b3 b4 b5 b6 b7 : Nat) (h0 : b0 < 256) (h1 : b1 < 256) (h2 : b2 < 256) (h3 : b3 < 256) (h4 : b4 < 256) (h5 : b5 < 256) (h6 : b6 < 256) (h7 : b7 < 256) :
    (cat8 b0 b1 b2 b3 b4 b5 b6 b7 / 2 &&& 6148914691236517205) + (cat8 b0 b1 b2 b3 b4 b5 b6 b7 &&& 6148914691236517205) = cat8 (g1 b0) (g1 b1) (g1 b2) (g1 b3) (g1 b4) (g1 b5) (g1 b6) (g1 b7) := by
  have hM : (6148914691236517205 : Nat) = cat8 85 85 85 85 85 85 85 85 := by decide
  have hd : cat8 b0 b1 b2 b3 b4 b5 b6 b7 / 2 = cat8 (b0 / 2 + 128 * (b1 % 2)) (b1 / 2 + 128 * (b2 % 2)) (b2 / 2 + 128 * (b3 % 2)) (b3 / 2 + 128 * (b4 % 2)) (b4 / 2 + 128 * (b5 % 2)) (b5 / 2 + 128 * (b6 % 2)) (b6 / 2 + 128 * (b7 % 2)) (b7 / 2) := by
    unfold cat8
    omega
  rw [hd, hM, and_cat8 _ _ _ _ _ _ _ _ _ _ _ _ _ _ _ _ (by omega) (by omega) (by omega) (by omega) (by omega) (by omega) (by omega) (by omega) (by omega) (by omega) (by omega) (by omega) (by omega) (by omega),
    and_cat8 _ _ _ _ _ _ _ _ _ _ _ _ _ _ _ _ h0 h1 h2 h3 h4 h5 h6 (by omega) (by omega) (by omega) (by omega) (by omega) (by omega) (by omega),
    m1 b0 b1 h0, m1 b1 b2 h1, m1 b2 b3 h2, m1 b3 b4 h3, m1 b4 b5 h4, m1 b5 b6 h5, m1 b6 b7 h6]
  unfold cat8 g1
  omega
theorem stage2 (b0 b1 b2 b3 b4 b5 b6 b7 : Nat) (h0 : b0 < 256) (h1 : b1 < 256) (h2 : b2 < 256) (h3 : b3 < 256) (h4 : b4 < 256) (h5 : b5 < 256) (h6 : b6 < 256) (h7 : b7 < 256) :
    (cat8 b0 b1 b2 b3 b4 b5 b6 b7 / 4 &&& 3689348814741910323) + (cat8 b0 b1 b2 b3 b4 b5 b6 b7 &&& 3689348814741910323) = cat8 (g2 b0) (g2 b1) (g2 b2) (g2 b3) (g2 b4) (g2 b5) (g2 b6) (g2 b7) := by
  have hM : (3689348814741910323 : Nat) = cat8 51 51 51 51 51 51 51 51 := by decide
  have hd : cat8 b0 b1 b2 b3 b4 b5 b6 b7 / 4 = cat8 (b0 / 4 + 64 * (b1 % 4)) (b1 / 4 + 64 * (b2 % 4)) (b2 / 4 + 64 * (b3 % 4)) (b3 / 4 + 64 * (b4 % 4)) (b4 / 4 + 64 * (b5 % 4)) (b5 / 4 + 64 * (b6 % 4)) (b6 / 4 + 64 * (b7 % 4)) (b7 / 4) := by
    unfold cat8
    omega
  rw [hd, hM, and_cat8 _ _ _ _ _ _ _ _ _ _ _ _ _ _ _ _ (by omega) (by omega) (by omega) (by omega) (by omega) (by omega) (by omega) (by omega) (by omega) (by omega) (by omega) (by omega) (by omega) (by omega),
    and_cat8 _ _ _ _ _ _ _ _ _ _ _ _ _ _ _ _ h0 h1 h2 h3 h4 h5 h6 (by omega) (by omega) (by omega) (by omega) (by omega) (by omega) (by omega),
    m2 b0 b1 h0, m2 b1 b2 h1, m2 b2 b3 h2, m2 b3 b4 h3, m2 b4 b5 h4, m2 b5 b6 h5, m2 b6 b7 h6]
  unfold cat8 g2
  omega
theorem and15 (x : Nat) : x &&& 15 = x % 16 := Nat.and_two_pow_sub_one_eq_mod x 4
theorem stage3 (b0 b1 b2 b3 b4 b5 b6 b7 : Nat) (h0 : b0 ≤ 68) (h1 : b1 ≤ 68) (h2 : b2 ≤ 68) (h3 : b3 ≤ 68) (h4 : b4 ≤ 68) (h5 : b5 ≤ 68) (h6 : b6 ≤ 68) (h7 : b7 ≤ 68)
    (k1 : b1 % 16 ≤ 4) (k2 : b2 % 16 ≤ 4) (k3 : b3 % 16 ≤ 4) (k4 : b4 % 16 ≤ 4) (k5 : b5 % 16 ≤ 4) (k6 : b6 % 16 ≤ 4) (k7 : b7 % 16 ≤ 4) :
    (cat8 b0 b1 b2 b3 b4 b5 b6 b7 / 16 + cat8 b0 b1 b2 b3 b4 b5 b6 b7) &&& 1085102592571150095 = cat8 (g3 b0) (g3 b1) (g3 b2) (g3 b3) (g3 b4) (g3 b5) (g3 b6) (g3 b7) := by
  have hM : (1085102592571150095 : Nat) = cat8 15 15 15 15 15 15 15 15 := by decide
  have hd : cat8 b0 b1 b2 b3 b4 b5 b6 b7 / 16 + cat8 b0 b1 b2 b3 b4 b5 b6 b7 = cat8 (b0 / 16 + 16 * (b1 % 16) + b0) (b1 / 16 + 16 * (b2 % 16) + b1) (b2 / 16 + 16 * (b3 % 16) + b2) (b3 / 16 + 16 * (b4 % 16) + b3) (b4 / 16 + 16 * (b5 % 16) + b4) (b5 / 16 + 16 * (b6 % 16) + b5) (b6 / 16 + 16 * (b7 % 16) + b6) (b7 / 16 + b7) := by
    unfold cat8
    omega
  rw [hd, hM, and_cat8 _ _ _ _ _ _ _ _ _ _ _ _ _ _ _ _ (by omega) (by omega) (by omega) (by omega) (by omega) (by omega) (by omega) (by omega) (by omega) (by omega) (by omega) (by omega) (by omega) (by omega)]
  simp only [and15]
  unfold cat8 g3
  omega
theorem popAux_split (k : Nat) : ∀ (j x y : Nat), x < 2 ^ k → popAux (k + j) (x + 2 ^ k * y) = popAux k x + popAux j y := by
  induction k with
  | zero =>
    intro j x y hx
    have : x = 0 := by simp at hx; exact hx
    subst this
    simp [popAux]
  | succ k ih =>
    intro j x y hx
    rw [show k + 1 + j = (k + j) + 1 from by omega]
    simp only [popAux]
    have h1 : (x + 2 ^ (k + 1) * y) % 2 = x % 2 := by rw [Nat.pow_succ, Nat.mul_comm (2 ^ k) 2, Nat.mul_assoc]; omega
    have h2 : (x + 2 ^ (k + 1) * y) / 2 = x / 2 + 2 ^ k * y := by rw [Nat.pow_succ, Nat.mul_comm (2 ^ k) 2, Nat.mul_assoc]; omega
    rw [h1, h2, ih j (x / 2) y (by rw [Nat.pow_succ] at hx; omega)]
    omega
theorem pop_cat8 (b0 b1 b2 b3 b4 b5 b6 b7 : Nat) (h0 : b0 < 256) (h1 : b1 < 256) (h2 : b2 < 256) (h3 : b3 < 256) (h4 : b4 < 256) (h5 : b5 < 256) (h6 : b6 < 256) :
    onesCount (cat8 b0 b1 b2 b3 b4 b5 b6 b7) = popAux 8 b0 + (popAux 8 b1 + (popAux 8 b2 + (popAux 8 b3 + (popAux 8 b4 + (popAux 8 b5 + (popAux 8 b6 + popAux 8 b7)))))) := by
  unfold onesCount cat8
  rw [show (64 : Nat) = 8 + 56 from rfl, show ∀ t : Nat, 256 * t = 2 ^ 8 * t from fun _ => rfl, popAux_split 8 56 _ _ (by simpa using h0),
    show (56 : Nat) = 8 + 48 from rfl, popAux_split 8 48 _ _ (by simpa using h1), show (48 : Nat) = 8 + 40 from rfl, popAux_split 8 40 _ _ (by simpa using h2),
    show (40 : Nat) = 8 + 32 from rfl, popAux_split 8 32 _ _ (by simpa using h3), show (32 : Nat) = 8 + 24 from rfl, popAux_split 8 24 _ _ (by simpa using h4),
    show (24 : Nat) = 8 + 16 from rfl, popAux_split 8 16 _ _ (by simpa using h5), show (16 : Nat) = 8 + 8 from rfl, popAux_split 8 8 _ _ (by simpa using h6)]
theorem stage4 (p0 p1 p2 p3 p4 p5 p6 p7 : Nat) (h0 : p0 ≤ 8) (h1 : p1 ≤ 8) (h2 : p2 ≤ 8) (h3 : p3 ≤ 8) (h4 : p4 ≤ 8) (h5 : p5 ≤ 8) (h6 : p6 ≤ 8) (h7 : p7 ≤ 8) (x y z : Nat)
    (hx : x = cat8 p0 p1 p2 p3 p4 p5 p6 p7 + cat8 p0 p1 p2 p3 p4 p5 p6 p7 / 256) (hy : y = x + x / 65536) (hz : z = y + y / 4294967296) :
    z % 128 = p0 + (p1 + (p2 + (p3 + (p4 + (p5 + (p6 + p7)))))) ∧ x < 18446744073709551616 ∧ y < 18446744073709551616 ∧ z < 18446744073709551616 := by
  have e1 : x = cat8 (p0 + p1) (p1 + p2) (p2 + p3) (p3 + p4) (p4 + p5) (p5 + p6) (p6 + p7) p7 := by rw [hx]; unfold cat8; omega
  have e2 : y = cat8 (p0 + p1 + (p2 + p3)) (p1 + p2 + (p3 + p4)) (p2 + p3 + (p4 + p5)) (p3 + p4 + (p5 + p6)) (p4 + p5 + (p6 + p7)) (p5 + p6 + p7) (p6 + p7) p7 := by rw [hy, e1]; unfold cat8; omega
  have e3 : z = cat8 (p0 + p1 + (p2 + p3) + (p4 + p5 + (p6 + p7))) (p1 + p2 + (p3 + p4) + (p5 + p6 + p7)) (p2 + p3 + (p4 + p5) + (p6 + p7)) (p3 + p4 + (p5 + p6) + p7) (p4 + p5 + (p6 + p7)) (p5 + p6 + p7) (p6 + p7) p7 := by rw [hz, e2]; unfold cat8; omega
  rw [e1, e2, e3]
  unfold cat8
  omega
/-- The library's steps, one under the other. -/
theorem swar_cat (b0 b1 b2 b3 b4 b5 b6 b7 : Nat) (h0 : b0 < 256) (h1 : b1 < 256) (h2 : b2 < 256) (h3 : b3 < 256) (h4 : b4 < 256) (h5 : b5 < 256) (h6 : b6 < 256) (h7 : b7 < 256) (x y1 y2 y3 y4 y5 y6 : Nat)
    (ex : x = cat8 b0 b1 b2 b3 b4 b5 b6 b7)
    (e1 : y1 = (x / 2 &&& 6148914691236517205) + (x &&& 6148914691236517205)) (e2 : y2 = (y1 / 4 &&& 3689348814741910323) + (y1 &&& 3689348814741910323))
    (e3 : y3 = (y2 / 16 + y2) &&& 1085102592571150095) (e4 : y4 = y3 + y3 / 256) (e5 : y5 = y4 + y4 / 65536) (e6 : y6 = y5 + y5 / 4294967296) :
    y6 % 128 = onesCount x ∧ y1 < 18446744073709551616 ∧ y2 < 18446744073709551616 ∧ y2 / 16 + y2 < 18446744073709551616 ∧ y4 < 18446744073709551616 ∧ y5 < 18446744073709551616 ∧ y6 < 18446744073709551616 := by
  obtain ⟨p0, q0, r0, s0, t0⟩ := g_fin ⟨b0, h0⟩
  obtain ⟨p1, q1, r1, s1, t1⟩ := g_fin ⟨b1, h1⟩
  obtain ⟨p2, q2, r2, s2, t2⟩ := g_fin ⟨b2, h2⟩
  obtain ⟨p3, q3, r3, s3, t3⟩ := g_fin ⟨b3, h3⟩
  obtain ⟨p4, q4, r4, s4, t4⟩ := g_fin ⟨b4, h4⟩
  obtain ⟨p5, q5, r5, s5, t5⟩ := g_fin ⟨b5, h5⟩
  obtain ⟨p6, q6, r6, s6, t6⟩ := g_fin ⟨b6, h6⟩
  obtain ⟨p7, q7, r7, s7, t7⟩ := g_fin ⟨b7, h7⟩
  have k1 : y1 = cat8 (g1 b0) (g1 b1) (g1 b2) (g1 b3) (g1 b4) (g1 b5) (g1 b6) (g1 b7) := by rw [e1, ex]; exact stage1 _ _ _ _ _ _ _ _ h0 h1 h2 h3 h4 h5 h6 h7
  have k2 : y2 = cat8 (g2 (g1 b0)) (g2 (g1 b1)) (g2 (g1 b2)) (g2 (g1 b3)) (g2 (g1 b4)) (g2 (g1 b5)) (g2 (g1 b6)) (g2 (g1 b7)) := by rw [e2, k1]; exact stage2 _ _ _ _ _ _ _ _ q0 q1 q2 q3 q4 q5 q6 q7
  have k3 : y3 = cat8 (g3 (g2 (g1 b0))) (g3 (g2 (g1 b1))) (g3 (g2 (g1 b2))) (g3 (g2 (g1 b3))) (g3 (g2 (g1 b4))) (g3 (g2 (g1 b5))) (g3 (g2 (g1 b6))) (g3 (g2 (g1 b7))) := by rw [e3, k2]; exact stage3 _ _ _ _ _ _ _ _ r0 r1 r2 r3 r4 r5 r6 r7 s1 s2 s3 s4 s5 s6 s7
  clear e1 e2 e3
  generalize g1 b0 = c0 at *
  generalize g1 b1 = c1 at *
  generalize g1 b2 = c2 at *
  generalize g1 b3 = c3 at *
  generalize g1 b4 = c4 at *
  generalize g1 b5 = c5 at *
  generalize g1 b6 = c6 at *
  generalize g1 b7 = c7 at *
  rw [p0, p1, p2, p3, p4, p5, p6, p7] at k3
  generalize g2 c0 = d0 at *
  generalize g2 c1 = d1 at *
  generalize g2 c2 = d2 at *
  generalize g2 c3 = d3 at *
  generalize g2 c4 = d4 at *
  generalize g2 c5 = d5 at *
  generalize g2 c6 = d6 at *
  generalize g2 c7 = d7 at *
  clear p0 p1 p2 p3 p4 p5 p6 p7
  have hp := pop_cat8 b0 b1 b2 b3 b4 b5 b6 b7 h0 h1 h2 h3 h4 h5 h6
  rw [← ex] at hp
  rw [hp]
  generalize popAux 8 b0 = u0 at *
  generalize popAux 8 b1 = u1 at *
  generalize popAux 8 b2 = u2 at *
  generalize popAux 8 b3 = u3 at *
  generalize popAux 8 b4 = u4 at *
  generalize popAux 8 b5 = u5 at *
  generalize popAux 8 b6 = u6 at *
  generalize popAux 8 b7 = u7 at *
  obtain ⟨f1, f2, f3, f4⟩ := stage4 u0 u1 u2 u3 u4 u5 u6 u7 t0 t1 t2 t3 t4 t5 t6 t7 y4 y5 y6 (by rw [e4, k3]) e5 e6
  clear e4 e5 e6 k3
  refine ⟨f1, ?_, ?_, ?_, f2, f3, f4⟩
  · rw [k1]; exact cat8_lt _ _ _ _ _ _ _ _ q0 q1 q2 q3 q4 q5 q6 q7
  · have hz := cat8_lt68 d0 d1 d2 d3 d4 d5 d6 d7 r0 r1 r2 r3 r4 r5 r6 r7
    rw [← k2] at hz
    exact lt63a hz
  · have hz := cat8_lt68 d0 d1 d2 d3 d4 d5 d6 d7 r0 r1 r2 r3 r4 r5 r6 r7
    rw [← k2] at hz
    exact lt63b hz
theorem swar (x : Nat) (hx : x < 18446744073709551616) (y1 y2 y3 y4 y5 y6 : Nat)
    (e1 : y1 = (x / 2 &&& 6148914691236517205) + (x &&& 6148914691236517205)) (e2 : y2 = (y1 / 4 &&& 3689348814741910323) + (y1 &&& 3689348814741910323))
    (e3 : y3 = (y2 / 16 + y2) &&& 1085102592571150095) (e4 : y4 = y3 + y3 / 256) (e5 : y5 = y4 + y4 / 65536) (e6 : y6 = y5 + y5 / 4294967296) :
    y6 % 128 = onesCount x ∧ y1 < 18446744073709551616 ∧ y2 < 18446744073709551616 ∧ y2 / 16 + y2 < 18446744073709551616 ∧ y4 < 18446744073709551616 ∧ y5 < 18446744073709551616 ∧ y6 < 18446744073709551616 := by
  obtain ⟨b0, b1, b2, b3, b4, b5, b6, b7, h0, h1, h2, h3, h4, h5, h6, h7, ex⟩ := cat8_of x hx
  exact swar_cat b0 b1 b2 b3 b4 b5 b6 b7 h0 h1 h2 h3 h4 h5 h6 h7 x y1 y2 y3 y4 y5 y6 ex e1 e2 e3 e4 e5 e6

end Go.Proofs.Ytnakkdaeehglnaa.Kit

namespace Go.Proofs.Ytnakkdaeehglnaa.P
open Go.RowKit Go.Proofs.YtnakkdaeehglnaaW.PrintWords Go.Proofs.YtnakkdaeehglnaaW.PrintLast Go.Proofs.YtnakkdaeehglnaaW.PrintMore
open Go.Proofs.Ytnakkdaeehglnaa.Kit

def bits_Len.f (a0 : Int) : Option Int := if 0 ≤ a0 ∧ a0 ≤ 18446744073709551615 then some (Lib.bitLen a0.toNat : Int) else none
theorem bits_Len.calls (a0 : Int) (r : Int) (w : World) (h : bits_Len.f a0 = some r) :
    Calls Try.prog 59 #[.int .u64 a0] w fun e w' => e = .returned (.int .i64 r) ∧ Drawn0 w w' := by
  unfold bits_Len.f at h
  split at h
  case isFalse => cases h
  rename_i hb
  injection h with h
  subst h
  refine (Try.bits_Len a0 w hb.1 hb.2).mono ?_
  rintro e w' ⟨rfl, rfl⟩
  exact ⟨rfl, Drawn0.refl _⟩

theorem u64w {x : Nat} (h : x < 18446744073709551616) : IntKind.u64.wrap (x : Int) = (x : Int) := by
  simp [IntKind.wrap, IntKind.bits, IntKind.signed]
  omega
theorem andu64 (x y : Nat) (hx : x < 18446744073709551616) (hy : y < 18446744073709551616) : Go.bits .and .u64 (x : Int) (y : Int) = ((x &&& y : Nat) : Int) := by
  have hw : ∀ n : Int, 0 ≤ n → n < 2 ^ 64 → IntKind.u64.wrap n = n := fun n h0 h1 => by
    obtain ⟨m, rfl⟩ := Int.eq_ofNat_of_zero_le h0
    exact u64w (by have : (m : Int) < 18446744073709551616 := by simpa using h1
                   omega)
  exact (bits_nat .u64 64 (by decide) hw x y (by simpa using hx) (by simpa using hy)).1
theorem ediv_lit (m x : Nat) (xi : Int) (h : xi = (x : Int)) : (m : Int) / xi = ((m / x : Nat) : Int) := by
  rw [h]
  exact (Int.natCast_ediv m x).symm
theorem fstep (x z s m : Nat) (si mi : Int) (hs : si = (s : Int)) (hm : mi = (m : Int)) (hx : x < 18446744073709551616) (hm64 : m < 18446744073709551616) (hz : (x / s &&& m) + (x &&& m) = z) (l : z < 18446744073709551616) :
    IntKind.u64.wrap ((Go.bits .and .u64 ((x : Int) / si) mi) + (Go.bits .and .u64 (x : Int) mi)) = (z : Int) := by
  rw [ediv_lit x s si hs, hm, andu64 _ _ (Nat.lt_of_le_of_lt (Nat.div_le_self x s) hx) hm64, andu64 _ _ hx hm64, ← Int.natCast_add, hz, u64w l]
theorem gstep (x z s : Nat) (si : Int) (hs : si = (s : Int)) (hz : x + x / s = z) (l : z < 18446744073709551616) :
    IntKind.u64.wrap ((x : Int) + (x : Int) / si) = (z : Int) := by
  rw [ediv_lit x s si hs, ← Int.natCast_add, hz, u64w l]
theorem gstep' (x z s : Nat) (si : Int) (hs : si = (s : Int)) (hz : x / s + x = z) (l : z < 18446744073709551616) :
    IntKind.u64.wrap ((x : Int) / si + (x : Int)) = (z : Int) := by
  rw [ediv_lit x s si hs, ← Int.natCast_add, hz, u64w l]
theorem and127 (z : Nat) : Go.bits .and .i64 (wrap64 (z : Int)) 127 = ((z % 128 : Nat) : Int) := by
  have ho : BitVec.ofInt 64 (wrap64 (z : Int)) = BitVec.ofNat 64 z := by
    apply BitVec.eq_of_toNat_eq
    rw [BitVec.toNat_ofInt, BitVec.toNat_ofNat]
    unfold wrap64
    simp only [Nat.reducePow]
    omega
  have h127 : (BitVec.ofInt 64 127).toNat = 127 := by decide
  show IntKind.i64.wrap ((BitVec.ofInt 64 (wrap64 (z : Int)) &&& BitVec.ofInt 64 127).toNat : Int) = _
  rw [BitVec.toNat_and, ho, h127, BitVec.toNat_ofNat]
  have ha : z % 2 ^ 64 &&& 127 = z % 128 := by
    have := Nat.and_two_pow_sub_one_eq_mod (z % 2 ^ 64) 7
    simp only [Nat.reducePow, Nat.reduceSub] at this ⊢
    rw [this]
    omega
  rw [ha, IntKind.wrap_i64]
  omega
/-- The library's formula, step under step. -/
theorem ones_formula (n : Nat) (hn : n < 18446744073709551616) (y1 y2 y3 y4 y5 y6 : Int)
    (e1 : y1 = IntKind.u64.wrap ((Go.bits .and .u64 ((n : Int) / 2) 6148914691236517205) + (Go.bits .and .u64 (n : Int) 6148914691236517205)))
    (e2 : y2 = IntKind.u64.wrap ((Go.bits .and .u64 (y1 / 4) 3689348814741910323) + (Go.bits .and .u64 y1 3689348814741910323)))
    (e3 : y3 = Go.bits .and .u64 (IntKind.u64.wrap (y2 / 16 + y2)) 1085102592571150095)
    (e4 : y4 = IntKind.u64.wrap (y3 + y3 / 256)) (e5 : y5 = IntKind.u64.wrap (y4 + y4 / 65536)) (e6 : y6 = IntKind.u64.wrap (y5 + y5 / 4294967296)) :
    Go.bits .and .i64 (wrap64 y6) 127 = (Lib.onesCount n : Int) := by
  obtain ⟨z1, h1⟩ : ∃ z, (n / 2 &&& 6148914691236517205) + (n &&& 6148914691236517205) = z := ⟨_, rfl⟩
  obtain ⟨z2, h2⟩ : ∃ z, (z1 / 4 &&& 3689348814741910323) + (z1 &&& 3689348814741910323) = z := ⟨_, rfl⟩
  obtain ⟨z3, h3⟩ : ∃ z, (z2 / 16 + z2) &&& 1085102592571150095 = z := ⟨_, rfl⟩
  obtain ⟨z4, h4⟩ : ∃ z, z3 + z3 / 256 = z := ⟨_, rfl⟩
  obtain ⟨z5, h5⟩ : ∃ z, z4 + z4 / 65536 = z := ⟨_, rfl⟩
  obtain ⟨z6, h6⟩ : ∃ z, z5 + z5 / 4294967296 = z := ⟨_, rfl⟩
  obtain ⟨s, l1, l2, l2', l4, l5, l6⟩ := swar n hn z1 z2 z3 z4 z5 z6 h1.symm h2.symm h3.symm h4.symm h5.symm h6.symm
  have d1 : y1 = (z1 : Int) := e1.trans (fstep n z1 2 6148914691236517205 2 6148914691236517205 rfl rfl hn (by decide) h1 l1)
  rw [d1] at e2
  have d2 : y2 = (z2 : Int) := e2.trans (fstep z1 z2 4 3689348814741910323 4 3689348814741910323 rfl rfl l1 (by decide) h2 l2)
  rw [d2, gstep' z2 _ 16 16 rfl rfl l2'] at e3
  have d3 : y3 = (z3 : Int) := by
    rw [e3, show (1085102592571150095 : Int) = ((1085102592571150095 : Nat) : Int) from rfl, andu64 _ _ l2' (by decide), h3]
  rw [d3] at e4
  have d4 : y4 = (z4 : Int) := e4.trans (gstep z3 z4 256 256 rfl h4 l4)
  rw [d4] at e5
  have d5 : y5 = (z5 : Int) := e5.trans (gstep z4 z5 65536 65536 rfl h5 l5)
  rw [d5] at e6
  have d6 : y6 = (z6 : Int) := e6.trans (gstep z5 z6 4294967296 4294967296 rfl h6 l6)
  rw [d6, and127, s]

theorem ones_le (n : Nat) : Lib.onesCount n ≤ 64 := by
  have : ∀ k x, Lib.popAux k x ≤ k := by
    intro k
    induction k with
    | zero => intro x; exact Nat.le_refl _
    | succ k ih => intro x; simp only [Lib.popAux]; have := ih (x / 2); omega
  exact this 64 n

def bits_OnesCount64.f (a0 : Int) : Option Int := if 0 ≤ a0 ∧ a0 ≤ 18446744073709551615 then some (Lib.onesCount a0.toNat : Int) else none
set_option maxHeartbeats 8000000 in
set_option maxRecDepth 100000 in
theorem bits_OnesCount64.calls (a0 : Int) (r : Int) (w : World) (h : bits_OnesCount64.f a0 = some r) :
    Calls Try.prog 90 #[.int .u64 a0] w fun e w' => e = .returned (.int .i64 r) ∧ Drawn0 w w' := by
  unfold bits_OnesCount64.f at h
  split at h
  case isFalse => cases h
  rename_i hb
  injection h with h
  have hf := ones_formula a0.toNat (by omega) _ _ _ _ _ _ rfl rfl rfl rfl rfl rfl
  rw [h, Int.toNat_of_nonneg hb.1] at hf
  have HF := Aside0.mk hf
  clear hf h hb
  go_enter Try.func90, Try.ntmps90
  go_wp2
  go_ret
  exact ⟨by have hz_ := HF.out; first | (subst hz_; rfl) | (rw [← hz_]; rfl) | (rw [← hz_]; simp), by repeat (first | exact Drawn0.refl _ | apply Drawn0.step)⟩

def bits_OnesCount.f (a0 : Int) : Option Int := if 0 ≤ a0 ∧ a0 ≤ 18446744073709551615 then some (Lib.onesCount a0.toNat : Int) else none
set_option maxHeartbeats 8000000 in
theorem bits_OnesCount.calls (a0 : Int) (r : Int) (w : World) (h : bits_OnesCount.f a0 = some r) :
    Calls Try.prog 79 #[.int .u64 a0] w fun e w' => e = .returned (.int .i64 r) ∧ Drawn0 w w' := by
  have h' : bits_OnesCount64.f a0 = some r := h
  have HF := Aside0.mk h'
  clear h h'
  go_enter Try.func79, Try.ntmps79
  go_wp2_with (go_at_call 90; refine (bits_OnesCount64.calls a0 r _ HF.out).mono ?_; rintro e w' ⟨rfl, ⟨⟨n1, rfl⟩⟩⟩)
  go_ret
  exact ⟨rfl, by repeat (first | exact Drawn0.refl _ | apply Drawn0.step)⟩

end Go.Proofs.Ytnakkdaeehglnaa.P

namespace Go.Proofs.Ytnakkdaeehglnaa.P
open Go.RowKit Go.Proofs.YtnakkdaeehglnaaW.PrintWords Go.Proofs.YtnakkdaeehglnaaW.PrintLast Go.Proofs.YtnakkdaeehglnaaW.PrintMore
attribute [local go_sem] max2_int min2_int max_two min_two max_three min_three max_four min_four   -- for this text's walks alone
set_option linter.unusedVariables false
set_option linter.unusedSimpArgs false

/-! ### flash_lit: function 74 -/
def flash_lit.f (a0 : Int) : Option (Int) := (bits_OnesCount.f (IntKind.u64.wrap (a0))).bind fun t162 => (some t162)
set_option maxHeartbeats 8000000 in
set_option maxRecDepth 100000 in
theorem flash_lit.calls (a0 : Int) (r : Int) (w : World) (h : flash_lit.f a0 = some r) :
    Calls Try.prog 74 #[.int .i64 a0] w fun e w' => e = .returned (.int .i64 r) ∧ Drawn0 w w' := by
  have H : ((bits_OnesCount.f (IntKind.u64.wrap (a0))).bind fun t162 => (some t162)) = some r := h
  clear h
  replace H := Option.bind_eq_some_iff.mp H
  obtain ⟨t162, A20, H⟩ := H
  replace H : (some t162) = some r := H
  have A2 := Aside0.mk A20
  clear A20
  obtain rfl := Option.some.inj H
  go_enter Try.func74, Try.ntmps74
  go_wp2_with (first | ((with_reducible refine gate_callee (f := 79) rfl ?_); refine goesL_ (some 5) rfl rfl Try.func79 (by kernel_rfl) rfl #[.int .u64 (IntKind.u64.wrap (a0))] rfl (by (try simp only [List.map_toArray, List.map_cons, List.map_nil]); first | done | rfl | (simp only [List.length_drop, List.length_take]; rfl)) ?_; (with_reducible refine (bits_OnesCount.calls (IntKind.u64.wrap (a0)) t162 _ A2.out).mono ?_); rintro e w' ⟨rfl, ⟨nd, rfl⟩⟩; refine ⟨_, rfl, ?_⟩))
  go_ret
  exact ⟨by first | rfl | (simp; done) | (simp [*]; done), by repeat (first | exact Drawn0.refl _ | apply Drawn0.step)⟩

end Go.Proofs.Ytnakkdaeehglnaa.P

namespace Go.Proofs.Ytnakkdaeehglnaa.P
open Go.RowKit Go.Proofs.YtnakkdaeehglnaaW.PrintWords Go.Proofs.YtnakkdaeehglnaaW.PrintLast Go.Proofs.YtnakkdaeehglnaaW.PrintMore
attribute [local go_sem] max2_int min2_int max_two min_two max_three min_three max_four min_four   -- for this text's walks alone
set_option linter.unusedVariables false
set_option linter.unusedSimpArgs false

/-! ### flash_next: function 63 -/
def flash_next.f (a0 : Int) (a1 : Int) : Option (Bool) := (flash_lit.f (Go.bits .xor .i64 a0 a1)).bind fun t163 => (some (t163 == 1))
set_option maxHeartbeats 8000000 in
set_option maxRecDepth 100000 in
theorem flash_next.calls (a0 : Int) (a1 : Int) (r : Bool) (w : World) (h : flash_next.f a0 a1 = some r) :
    Calls Try.prog 63 #[.int .i64 a0, .int .i64 a1] w fun e w' => e = .returned (.bool r) ∧ Drawn0 w w' := by
  have H : ((flash_lit.f (Go.bits .xor .i64 a0 a1)).bind fun t163 => (some (t163 == 1))) = some r := h
  clear h
  replace H := Option.bind_eq_some_iff.mp H
  obtain ⟨t163, A30, H⟩ := H
  replace H : (some (t163 == 1)) = some r := H
  have A3 := Aside0.mk A30
  clear A30
  obtain rfl := Option.some.inj H
  go_enter Try.func63, Try.ntmps63
  go_wp2_with (first | ((with_reducible refine gate_callee (f := 74) rfl ?_); refine goesL_ (some 8) rfl rfl Try.func74 (by kernel_rfl) rfl #[.int .i64 (Go.bits .xor .i64 a0 a1)] rfl (by (try simp only [List.map_toArray, List.map_cons, List.map_nil]); first | done | rfl | (simp only [List.length_drop, List.length_take]; rfl)) ?_; (with_reducible refine (flash_lit.calls (Go.bits .xor .i64 a0 a1) t163 _ A3.out).mono ?_); rintro e w' ⟨rfl, ⟨nd, rfl⟩⟩; refine ⟨_, rfl, ?_⟩))
  go_ret
  exact ⟨by first | rfl | (simp; done) | (simp [*]; done), by repeat (first | exact Drawn0.refl _ | apply Drawn0.step)⟩

end Go.Proofs.Ytnakkdaeehglnaa.P

set_option linter.unusedSimpArgs false
set_option linter.unusedVariables false
namespace Go.Proofs.Ytnakkdaeehglnaa.P
open Go.Lib Go.RowKit Go.Proofs.YtnakkdaeehglnaaW.PrintWords Go.Proofs.YtnakkdaeehglnaaW.PrintLast Go.Proofs.YtnakkdaeehglnaaW.PrintMore Go.Proofs.Ytnakkdaeehglnaa.Kit
open Go.Maps (Keyed int_keyed keyOf_int_mk)
attribute [local go_sem] max2_int min2_int max_two min_two max_three min_three max_four min_four

/-- Neighbours. -/
def nx (a b : Int) : Bool := onesCount (a.toNat ^^^ b.toNat) == 1
def small (x : Int) : Bool := decide (0 ≤ x ∧ x < 65536)
def pStep (l : List Int) (i : Nat) : Bool := !(l.take i).contains (rd l i) && (decide (i = 0) || nx (rd l ((i : Int) - 1)) (rd l i))
def pathB (l : List Int) : Bool := (List.range l.length).all (pStep l)
def flash_path.f (l : List Int) : Option Bool := if l.all small = true then some (pathB l) else none

theorem small_xor {a b : Nat} (ha : a < 65536) (hb : b < 65536) : a ^^^ b < 65536 := by
  have := Nat.xor_lt_two_pow (x := a) (y := b) (n := 16) (by omega) (by omega)
  omega
theorem ones_f {x : Nat} (h : x < 65536) : bits_OnesCount.f (x : Int) = some (onesCount x : Int) := by
  unfold bits_OnesCount.f
  rw [if_pos (by omega), Int.toNat_natCast]
theorem lit_small {x : Nat} (h : x < 65536) : flash_lit.f (x : Int) = some (onesCount x : Int) := by
  have e0 : IntKind.u64.wrap (x : Int) = (x : Int) := u64w (by omega)
  unfold flash_lit.f
  rw [e0, ones_f h, Option.bind_some]
theorem beq_one (z : Nat) : ((z : Int) == 1) = (z == 1) := by
  rw [Bool.eq_iff_iff, beq_iff_eq, beq_iff_eq]
  omega
theorem next_small {a b : Int} (ha : small a = true) (hb : small b = true) : flash_next.f a b = some (nx a b) := by
  have ha := of_decide_eq_true ha
  have hb := of_decide_eq_true hb
  obtain ⟨m, rfl⟩ : ∃ m : Nat, a = m := ⟨a.toNat, by omega⟩
  obtain ⟨n, rfl⟩ : ∃ n : Nat, b = n := ⟨b.toNat, by omega⟩
  have hx := small_xor (a := m) (b := n) (by omega) (by omega)
  have e : Go.bits .xor .i64 (m : Int) (n : Int) = ((m ^^^ n : Nat) : Int) := xor64 m n (by omega) (by omega)
  unfold flash_next.f nx
  rw [e, lit_small hx, Option.bind_some, Int.toNat_natCast, Int.toNat_natCast]
  exact congrArg some (beq_one _)
theorem small_rd {l : List Int} (h : l.all small = true) (i : Int) : small (rd l i) = true := by
  unfold rd
  rw [List.getD_eq_getElem?_getD]
  cases hx : l[i.toNat]? with
  | none => rfl
  | some x =>
    rw [List.all_eq_true] at h
    exact h x (List.mem_of_getElem? hx)
theorem small_wf {x : Int} (h : small x = true) : (Lit.int .i64 x).wf = true := by
  have h3 := of_decide_eq_true h
  have hmin : IntKind.i64.min = -9223372036854775808 := rfl
  have hmax : IntKind.i64.max = 9223372036854775807 := rfl
  simp only [Lit.wf, Bool.and_eq_true, decide_eq_true_eq]
  omega
theorem pathB_at {l : List Int} {i : Nat} (hi : i < l.length) (h : pStep l i = false) : pathB l = false := by
  rw [Bool.eq_false_iff]
  intro ht
  unfold pathB at ht
  rw [List.all_eq_true] at ht
  rw [ht i (List.mem_range.2 hi)] at h
  cases h
theorem pathB_all {l : List Int} (h : ∀ j, j < l.length → pStep l j = true) : pathB l = true := by
  unfold pathB
  rw [List.all_eq_true]
  intro i hi
  exact h i (List.mem_range.1 hi)
theorem take_has (l : List Int) (i : Int) (h0 : 0 ≤ i) (hi : i.toNat < l.length) (x : Int) : (x == rd l i || (l.take i.toNat).contains x) = (l.take (i.toNat + 1)).contains x := by
  have hrd : rd l i = l[i.toNat] := by unfold rd; rw [List.getD_eq_getElem?_getD, List.getElem?_eq_getElem hi]; rfl
  rw [List.take_succ_eq_append_getElem hi, hrd, Bool.eq_iff_iff, List.contains_iff_mem, List.mem_append, List.mem_singleton, Bool.or_eq_true, beq_iff_eq, List.contains_iff_mem]
  exact or_comm
section
set_option maxHeartbeats 4000000
set_option maxRecDepth 100000
theorem flash_path.calls (A0 : Option Addr) (c0 : Nat) (l0 : List Int) (r : Bool) (w : World) (hr0 : Kd.C (Kd.int .i64) w A0 l0.length l0) (hc0 : l0.length ≤ c0) (h : flash_path.f l0 = some r) :
    Calls Try.prog 46 #[.slice A0 l0.length c0] w fun e w' => e = .returned (.bool r) ∧ Below w.heap.size w w' := by
  have hlen := hr0.2.1
  have HR1 := Aside0.mk hr0
  have HC1 := Aside0.mk hc0
  have HL := Aside0.mk hlen
  have HB := Aside0.mk (Below.refl w.heap.size w)
  clear hr0 hc0 hlen
  unfold flash_path.f at h
  split at h
  case isFalse => cases h
  rename_i hs
  injection h with h
  have Hr := Aside0.mk h
  have HS := Aside0.mk hs
  clear h hs
  have hmm := @run_makeMap Try.prog
  go_enter Try.func46, Try.ntmps46
  go_wp2
  go_loopw [9] (fun v9 w' => ∃ i : Int, v9 = .int .i64 i ∧ Aside0 (0 ≤ i ∧ i ≤ l0.length) ∧ Aside0 (∀ j, j < i.toNat → pStep l0 j = true) ∧ Aside0 (∃ n : Nat, (n : Int) ≤ i ∧ SetAt Try.prog 3 4 w' w.heap.size n (fun x => (l0.take i.toNat).contains x)) ∧ Aside0 (Below w.heap.size w w')) (fun v _ => l0.length - (intOf v).toNat)
  case atStart => exact ⟨0, rfl, ⟨by omega⟩, ⟨fun j hj => absurd hj (by simp)⟩, ⟨0, Int.le_refl _, (SetAt.made w Try.prog 3 4).congr (fun x => by simp)⟩, ⟨below_alloc HB.out _⟩⟩
  case round =>
    clear HB hmm
    obtain ⟨i, rfl, HI, HA, HM, HB⟩ := hrel
    by_cases c1 : i < (l0.length : Int)
    · have c1b : decide (i < (l0.length : Int)) = true := decide_eq_true c1
      have p0 : 0 ≤ i := HI.out.1
      have hi : i.toNat < l0.length := by omega
      have hsx := small_rd HS.out i
      have hwf := small_wf hsx
      obtain ⟨ad, e1, hx⟩ := Kd.at_int (Kd.C_below HR1.out HB.out) i p0 c1
      obtain ⟨n, hn, hset⟩ := HM.out
      have hlook := hset.look Try.underlying3 Try.underlying4 Try.underlying69 Try.zeroValue4 hwf
      have q0 := eq_true c1
      have Hi := Aside0.mk hi
      have HSX := Aside0.mk hsx
      have HW := Aside0.mk hwf
      have hmx : n < maxLen := by unfold maxLen; have := HL.out; omega
      have HMX := Aside0.mk hmx
      have Hn := Aside0.mk hn
      have Hset := Aside0.mk hset
      have Hc1 := Aside0.mk c1
      have ht : (i.toNat : Int) = i := by omega
      have HT := Aside0.mk ht
      by_cases c3 : (l0.take i.toNat).contains (rd l0 i) = true
      · simp only [c3] at hlook
        have hlook0 : (Instr.lookup 69 (.map (some w.heap.size)) (.int .i64 (rd l0 i)) false).run Try.prog wr = .ok (.bool true) wr := hlook 0
        have hb : pStep l0 i.toNat = false := by unfold pStep; rw [ht, c3]; rfl
        have hb2 : pathB l0 = false := pathB_at hi hb
        have HR2 := Aside0.mk hb2
        replace p0 := eq_true p0
        clear hb hb2 c3 hset hn hwf c1 hi HM hsx hmx HA ht
        cases e1
        go_wp2
        go_ret
        exact ⟨by rw [← Hr.out, HR2.out]; rfl, by repeat (first | (with_reducible first | exact HB.out | apply below_alloc | apply pw_below_drewN | apply below_drew1) | exact HB.out)⟩
      · have c3' : (l0.take i.toNat).contains (rd l0 i) = false := by simpa using c3
        simp only [c3'] at hlook
        have hlook0 : (Instr.lookup 69 (.map (some w.heap.size)) (.int .i64 (rd l0 i)) false).run Try.prog wr = .ok (.bool false) wr := hlook 0
        by_cases c4 : i = 0
        · have hb : pStep l0 i.toNat = true := by unfold pStep; rw [ht, c3', c4]; rfl
          have Hb := Aside0.mk hb
          have c4b : decide (0 < i) = false := decide_eq_false (by omega)
          have hlt : i + 1 ≤ (l0.length : Int) := by omega
          have HLT := Aside0.mk hlt
          have p1 : i ≤ 9223372036854775806 := by have := HL.out; omega
          replace p1 := eq_true p1
          replace p0 := eq_true p0
          clear hb c3 c3' hset hn hwf c1 hi HM hsx hmx ht c4 hlt
          cases e1
          go_wp2_with (at_mapUpdate; go_loud (refine wpList_set_put (P := Try.prog) (K := 3) (E := 4) (b := w.heap.size) (n := n) (S := fun x => (l0.take i.toNat).contains x) rfl _ _ 69 rfl Try.underlying3 Try.underlying4 Try.underlying69 Hset.out HMX.out rfl (rd l0 i) rfl HW.out ?_); intro w3 hset3 hg3; have HS3 := Aside0.mk hset3; have HG3 := Aside0.mk hg3; clear hset3 hg3)
          go_roundw
          case rel => exact ⟨i + 1, by rw [w64 (x := i + 1) (by have := HI.out; omega) (by have := HLT.out; have := HL.out; omega)], ⟨by have := HI.out; have := HLT.out; omega⟩, ⟨fun j hj => by
              rcases Nat.lt_or_ge j i.toNat with h | h
              · exact HA.out j h
              · rw [show j = i.toNat from by have := HI.out.1; omega]; exact Hb.out⟩, ⟨n + 1, by have := Hn.out; omega, HS3.out.congr (fun x => by rw [show (i + 1).toNat = i.toNat + 1 from by have := HI.out.1; omega, take_has l0 i HI.out.1 Hi.out])⟩, ⟨HB.out.grown HG3.out (by have := HB.out.size; simpa using this) (fun k hk => by injection hk with hk; omega)⟩⟩
          case measure => rw [w64 (x := i + 1) (by have := HI.out; omega) (by have := HLT.out; have := HL.out; omega)]; have := HI.out; have := HLT.out; simp [intOf]; omega
        · have c4b : decide (0 < i) = true := decide_eq_true (by omega)
          have hm1 : wrap64 (i - 1) = i - 1 := w64 (by omega) (by have := HL.out; omega)
          have p2 : 0 ≤ i - 1 := by omega
          have q2 : i - 1 < (l0.length : Int) := by omega
          obtain ⟨ad2, e2, hx2⟩ := Kd.at_int (Kd.C_below HR1.out HB.out) (i - 1) p2 q2
          rw [show (i - 1).toNat = i.toNat - 1 from by omega] at hx2
          have hnx := next_small (small_rd HS.out (i - 1)) hsx
          have HNX := Aside0.mk hnx
          have hlt : i + 1 ≤ (l0.length : Int) := by omega
          have HLT := Aside0.mk hlt
          have p1 : i ≤ 9223372036854775806 := by have := HL.out; omega
          replace p1 := eq_true p1
          have p3 : 1 ≤ i := by omega
          replace p3 := eq_true p3
          replace p2 := eq_true p2
          replace q2 := eq_true q2
          replace p0 := eq_true p0
          have hb : pStep l0 i.toNat = nx (rd l0 (i - 1)) (rd l0 i) := by unfold pStep; rw [ht, c3', decide_eq_false (by omega)]; rfl
          have Hb := Aside0.mk hb
          clear hb c3 c3' hset hn hwf c1 hi HM hsx hmx ht c4 hlt hnx
          cases e1
          injection e2 with e2
          subst e2
          cases hq : nx (rd l0 (i - 1)) (rd l0 i) with
          | true =>
            rw [hq] at HNX Hb
            clear hq
            go_wp2_with (first | (go_at_call 63; (with_reducible refine (flash_next.calls (rd l0 (i - 1)) (rd l0 i) true _ HNX.out).mono ?_); rintro e w' ⟨rfl, ⟨nd2, rfl⟩⟩) | (at_mapUpdate; go_loud (refine wpList_set_put (P := Try.prog) (K := 3) (E := 4) (b := w.heap.size) (n := n) (S := fun x => (l0.take i.toNat).contains x) rfl _ _ 69 rfl Try.underlying3 Try.underlying4 Try.underlying69 (Hset.out.drewN _) HMX.out rfl (rd l0 i) rfl HW.out ?_); intro w3 hset3 hg3; have HS3 := Aside0.mk hset3; have HG3 := Aside0.mk hg3; clear hset3 hg3))
            go_roundw
            case rel => exact ⟨i + 1, by rw [w64 (x := i + 1) (by have := HI.out; omega) (by have := HLT.out; have := HL.out; omega)], ⟨by have := HI.out; have := HLT.out; omega⟩, ⟨fun j hj => by
              rcases Nat.lt_or_ge j i.toNat with h | h
              · exact HA.out j h
              · rw [show j = i.toNat from by have := HI.out.1; omega]; exact Hb.out⟩, ⟨n + 1, by have := Hn.out; omega, HS3.out.congr (fun x => by rw [show (i + 1).toNat = i.toNat + 1 from by have := HI.out.1; omega, take_has l0 i HI.out.1 Hi.out])⟩, ⟨(pw_below_drewN HB.out _).grown HG3.out (by have := HB.out.size; simpa using this) (fun k hk => by injection hk with hk; omega)⟩⟩
            case measure => rw [w64 (x := i + 1) (by have := HI.out; omega) (by have := HLT.out; have := HL.out; omega)]; have := HI.out; have := HLT.out; simp [intOf]; omega
          | false =>
            rw [hq] at HNX Hb
            have hb2 : pathB l0 = false := pathB_at Hi.out Hb.out
            have HR2 := Aside0.mk hb2
            clear hq hb2 HA
            go_wp2_with (go_at_call 63; (with_reducible refine (flash_next.calls (rd l0 (i - 1)) (rd l0 i) false _ HNX.out).mono ?_); rintro e w' ⟨rfl, ⟨nd2, rfl⟩⟩)
            go_ret
            exact ⟨by rw [← Hr.out, HR2.out]; rfl, by repeat (first | (with_reducible first | exact HB.out | apply below_alloc | apply pw_below_drewN | apply below_drew1) | exact HB.out)⟩
    · have c1b : decide (i < (l0.length : Int)) = false := decide_eq_false c1
      have hb2 : pathB l0 = true := pathB_all (fun j hj => HA.out j (by have := HI.out; omega))
      have HR2 := Aside0.mk hb2
      clear c1 HM HA hb2
      go_wp2
      go_ret
      exact ⟨by rw [← Hr.out, HR2.out]; rfl, by repeat (first | (with_reducible first | exact HB.out | apply below_alloc | apply pw_below_drewN | apply below_drew1) | exact HB.out)⟩
end
end Go.Proofs.Ytnakkdaeehglnaa.P

namespace Go.Proofs.Ytnakkdaeehglnaa.P
open Go.Lib Go.RowKit Go.Proofs.YtnakkdaeehglnaaW.PrintWords Go.Proofs.YtnakkdaeehglnaaW.PrintLast Go.Proofs.YtnakkdaeehglnaaW.PrintMore

theorem C_plain {w : World} {k : IntKind} {A : Option Addr} {l : List Int} (h : Kd.C (Kd.int k) w A l.length l) (hl : 0 < l.length) :
    ∃ b off, A = some ⟨b, off, none⟩ ∧ ∀ j, j < l.length → w.cell? ⟨b, off + j, none⟩ = some (.int k l[j]!) := by
  obtain ⟨ad, e, h0⟩ := Kd.at_int h 0 (Int.le_refl _) (by omega)
  have hadd : ad.add (Int.toNat 0) = ad := by simp [Addr.add]
  rw [hadd] at h0
  have hs : ad.spot = none := by
    unfold World.cell? at h0
    split at h0
    · split at h0
      · cases h0
      · rename_i h; simpa using h
    · cases h0
  refine ⟨ad.block, ad.off, by rw [e]; cases ad; simp_all, fun j hj => ?_⟩
  obtain ⟨ad', e', h1⟩ := Kd.at_int h (j : Int) (by omega) (by omega)
  rw [e] at e'
  injection e' with e'
  subst e'
  have hadd : ad.add (Int.toNat (j : Int)) = ⟨ad.block, ad.off + j, none⟩ := by
    unfold Addr.add
    split
    · rename_i h; simp at h; subst h; cases ad; simp_all
    · cases ad; simp_all
  rw [hadd] at h1
  rw [h1]
  unfold rd
  simp [List.getElem?_eq_getElem hj, getElem!_pos l j hj]
theorem cell_new (w : World) (v : Value) (t : TypeId) : (w.alloc (Obj.cells #[v] t)).cell? ⟨w.heap.size, 0, none⟩ = some v := by
  have h : (w.alloc (Obj.cells #[v] t)).heap = w.heap.push (Obj.cells #[v] t) := rfl
  unfold World.cell?
  rw [h]
  simp
theorem C_len {w : World} {k : IntKind} {A : Option Addr} {l : List Int} (h : Kd.C (Kd.int k) w A l.length l) : l.length ≤ 9223372036854775807 := h.2.1

theorem contains_calls (g : Nat) (lb : Array Value) (p : Int → Bool) (eg : ∀ args w, (callFunc g args).run Try.prog w = .ok (.enter g args) w) (A : Option Addr) (c : Nat) (l : List Int) (w : World)
    (hr : Kd.C (Kd.int .i64) w A l.length l) (hp : PredAt Try.prog g lb (fun x : Int => .int .i64 x) p w) :
    Calls Try.prog 65 #[.slice A l.length c, .func (.func g) #[] lb] w fun e w' => e = .returned (.bool (l.any p)) ∧ Drawn0 w w' := by
  rcases Nat.eq_zero_or_pos l.length with h0 | h0
  · have : l = [] := List.eq_nil_of_length_eq_zero h0
    subst this
    refine (Try.slices_ContainsFunc_empty (α := Int) A c _ w).mono ?_
    rintro e w' ⟨rfl, rfl⟩
    exact ⟨rfl, Drawn0.refl _⟩
  · obtain ⟨b, off, rfl, hc⟩ := C_plain hr h0
    refine (Try.slices_ContainsFunc (fun x : Int => .int .i64 x) p g lb eg b off l.length c l w hp (Nat.le_refl _) (C_len hr) hc).mono ?_
    rintro e w' ⟨rfl, q, rfl⟩
    rw [List.take_length]
    exact ⟨rfl, ⟨⟨q, rfl⟩⟩⟩
end Go.Proofs.Ytnakkdaeehglnaa.P

set_option linter.unusedSimpArgs false
set_option linter.unusedVariables false
namespace Go.Proofs.Ytnakkdaeehglnaa.Kit

def ins (x : Int) : List Int → List Int
  | [] => [x]
  | y :: ys => if x ≤ y then x :: y :: ys else y :: ins x ys
def isort : List Int → List Int
  | [] => []
  | x :: xs => ins x (isort xs)
theorem ins_perm (x : Int) (l : List Int) : (ins x l).Perm (x :: l) := by
  induction l with
  | nil => exact List.Perm.refl _
  | cons y ys ih =>
    unfold ins
    split
    · exact List.Perm.refl _
    · exact (List.Perm.cons y ih).trans (List.Perm.swap x y ys)
theorem isort_perm (l : List Int) : (isort l).Perm l := by
  induction l with
  | nil => exact List.Perm.refl _
  | cons x xs ih => exact (ins_perm x (isort xs)).trans (List.Perm.cons x ih)
theorem isort_length (l : List Int) : (isort l).length = l.length := (isort_perm l).length_eq
theorem mem_isort {x : Int} {l : List Int} : x ∈ isort l ↔ x ∈ l := (isort_perm l).mem_iff
theorem ins_sorted (x : Int) (l : List Int) (h : l.Pairwise (· ≤ ·)) : (ins x l).Pairwise (· ≤ ·) := by
  induction l with
  | nil => simp [ins]
  | cons y ys ih =>
    unfold ins
    rw [List.pairwise_cons] at h
    split
    · rename_i hxy
      refine List.pairwise_cons.2 ⟨fun z hz => ?_, List.pairwise_cons.2 h⟩
      rcases List.mem_cons.1 hz with rfl | hz
      · exact hxy
      · have := h.1 z hz
        omega
    · refine List.pairwise_cons.2 ⟨fun z hz => ?_, ih h.2⟩
      rcases List.mem_cons.1 ((ins_perm x ys).mem_iff.1 hz) with rfl | hz
      · omega
      · exact h.1 z hz
theorem isort_sorted (l : List Int) : (isort l).Pairwise (· ≤ ·) := by
  induction l with
  | nil => exact List.Pairwise.nil
  | cons x xs ih => exact ins_sorted x _ ih
/-- Two sorted lists of the same numbers are one. -/
theorem sorted_uniq : ∀ {a b : List Int}, a.Perm b → a.Pairwise (· ≤ ·) → b.Pairwise (· ≤ ·) → a = b := by
  intro a
  induction a with
  | nil => intro b h _ _; exact h.nil_eq
  | cons x xs ih =>
    intro b h ha hb
    cases b with
    | nil => exact absurd h.length_eq (by simp)
    | cons y ys =>
      rw [List.pairwise_cons] at ha hb
      have hxy : x = y := by
        have h1 : x ∈ y :: ys := h.mem_iff.1 List.mem_cons_self
        have h2 : y ∈ x :: xs := h.mem_iff.2 List.mem_cons_self
        rcases List.mem_cons.1 h1 with h1 | h1
        · exact h1
        · rcases List.mem_cons.1 h2 with h2 | h2
          · exact h2.symm
          · have := ha.1 y h2
            have := hb.1 x h1
            omega
      subst hxy
      rw [ih (List.Perm.cons_inv h) ha.2 hb.2]
theorem isort_of_sorted {l : List Int} (h : l.Pairwise (· ≤ ·)) : isort l = l := sorted_uniq (isort_perm l) (isort_sorted l) h
theorem mergeSort_isort (l : List Int) : (l.mergeSort fun x y => decide (x ≤ y)) = isort l := by
  refine sorted_uniq ((List.mergeSort_perm l _).trans (isort_perm l).symm) ?_ (isort_sorted l)
  have h := List.pairwise_mergeSort (le := fun x y : Int => decide (x ≤ y)) (fun a b c h1 h2 => by simp at *; omega) (fun a b => by simp; omega) l
  exact h.imp (fun h => by simpa using h)

end Go.Proofs.Ytnakkdaeehglnaa.Kit

namespace Go.Proofs.Ytnakkdaeehglnaa.P
open Go.RowKit Go.Proofs.YtnakkdaeehglnaaW.PrintWords Go.Proofs.YtnakkdaeehglnaaW.PrintLast Go.Proofs.YtnakkdaeehglnaaW.PrintMore
open Go.Sort
set_option linter.unusedSimpArgs false

theorem reps_nums {k : IntKind} {xs : List Int} {cs : List Value} (h : Reps (fun (x : Int) cs => cs = [Value.int k x]) 1 xs cs) : cs = nums k xs := by
  obtain ⟨hl, he⟩ := h
  apply List.ext_getElem?
  intro j
  by_cases hj : j < xs.length
  · have h1 := he j xs[j] (List.getElem?_eq_getElem hj)
    rw [Nat.mul_one] at h1
    have h2 : cs[j]? = ((cs.drop j).take 1)[0]? := by simp
    rw [h2, h1]
    simp [nums, List.getElem?_eq_getElem hj]
  · rw [List.getElem?_eq_none (by omega), List.getElem?_eq_none (by rw [nums_length]; omega)]
theorem reps_of_nums (k : IntKind) (xs : List Int) : Reps (fun (x : Int) cs => cs = [Value.int k x]) 1 xs (nums k xs) := by
  refine ⟨by rw [nums_length, Nat.mul_one], fun j p hj => ?_⟩
  have hlt : j < xs.length := by
    rcases Nat.lt_or_ge j xs.length with h | h
    · exact h
    · rw [List.getElem?_eq_none h] at hj; cases hj
  rw [List.getElem?_eq_getElem hlt] at hj
  injection hj with hj
  rw [Nat.mul_one]
  apply List.ext_getElem?
  intro i
  cases i with
  | zero => simp [nums, List.getElem?_eq_getElem hlt, hj]
  | succ i =>
    simp
    omega
theorem R_int_own {k : IntKind} {e base : Nat} {ok : Nat → Prop} {w : World} {v : Value} {xs : List Int} (h : (Kd.int k).R e w base ok v xs) : (∀ j, v.ownBlock = some j → ok j) ∧ w.ownsRow base e 1 v xs.length (nums k xs) := by
  obtain ⟨h0, inner, ho, hr⟩ := h
  have : inner = nums k xs := reps_nums hr
  subst this
  exact ⟨h0, ho⟩
theorem R_int_mk {k : IntKind} {e base : Nat} {ok : Nat → Prop} {w : World} {v : Value} {xs : List Int} (h0 : ∀ j, v.ownBlock = some j → ok j) (ho : w.ownsRow base e 1 v xs.length (nums k xs)) : (Kd.int k).R e w base ok v xs :=
  ⟨h0, nums k xs, ho, reps_of_nums k xs⟩

/-- A row of the call's own, as the sort's contract sees it. -/
theorem holds_of_own {k : IntKind} {base g cap e : Nat} {w : World} {xs : List Int} (h : w.ownsRow base e 1 (.slice (some ⟨g, 0, none⟩) xs.length cap) xs.length (nums k xs)) :
    Holds (Value.int k) w g 0 xs.toArray ∧ g < w.heap.size := by
  obtain ⟨hl, h⟩ := h
  rcases h with ⟨h1, _⟩ | ⟨g', cap', cur, h1, hb, hh, hn, hc, hs, ht⟩
  · cases h1
  · injection h1 with h1 h2 h3
    injection h1 with h1
    injection h1 with h1
    subst h1
    refine ⟨fun j hj => ?_, (Array.getElem?_eq_some_iff.1 hh).1⟩
    simp only [List.size_toArray] at hj
    rw [Nat.mul_one] at ht
    constructor
    · have h4 : cur.toList[j]? = (nums k xs)[j]? := by
        rw [← ht, List.getElem?_take, if_pos hj]
      simp only [World.cell?, hh, Nat.zero_add]
      simp only [Option.isSome_none, Bool.false_eq_true, if_false]
      rw [← Array.getElem?_toList, h4]
      simp [nums, List.getElem?_eq_getElem hj, hj]
    · simp [World.frozen?, hh]

/-- What stands behind a row that was laid anew. -/
theorem own_put_row {k : IntKind} {base g cap e m : Nat} {os : Array Obj} {w : World} {xs ys : List Int} (hlen : ys.length = xs.length)
    (h : w.ownsRow base e 1 (.slice (some ⟨g, 0, none⟩) xs.length cap) xs.length (nums k xs)) :
    (grow (putRow (Value.int k) (Sort.ahead w m) g 0 ys.toArray) os).ownsRow base e 1 (.slice (some ⟨g, 0, none⟩) xs.length cap) ys.length (nums k ys) := by
  obtain ⟨hl, h⟩ := h
  rcases h with ⟨h1, _⟩ | ⟨g', cap', cur, h1, hb, hh, hn, hc, hs, ht⟩
  · cases h1
  · injection h1 with h1 h2 h3
    injection h1 with h1
    injection h1 with h1
    subst h1 h3
    have hg : g < w.heap.size := (Array.getElem?_eq_some_iff.1 hh).1
    refine ⟨by rw [nums_length, Nat.mul_one], .inr ⟨g, cap, putCells (Value.int k) 0 ys.toArray cur, by rw [hlen], hb, ?_, by omega, hc, by simp [putCells, hs], ?_⟩⟩
    · rw [heap_grow_old _ _ (by simpa using hg)]
      simp only [putRow, mapBlock, heap_ahead, Array.getElem?_modify, if_true, hh, Option.map_some, onCells]
    · rw [Nat.mul_one]
      apply List.ext_getElem?
      intro j
      rw [List.getElem?_take]
      by_cases hj : j < ys.length
      · have hjc : j < cur.size := by omega
        rw [if_pos hj]
        simp only [putCells, Array.getElem?_toList, Array.getElem?_mapIdx, Array.getElem?_eq_getElem hjc, Option.map_some, Nat.zero_le, true_and, Nat.zero_add, List.size_toArray, if_pos hj, Nat.sub_zero]
        simp [nums, List.getElem?_eq_getElem hj, hj]
      · rw [if_neg hj, List.getElem?_eq_none (by rw [nums_length]; omega)]

theorem below_put_row {k : IntKind} {B g m : Nat} {os : Array Obj} {w0 w : World} {d : Array Int} (hB : Below B w0 w) (hg : B ≤ g) (hlt : B ≤ w.heap.size) : Below B w0 (grow (putRow (Value.int k) (Sort.ahead w m) g 0 d) os) := by
  refine ⟨hB.os, hB.tape, hB.output, ?_, fun i hi => ?_⟩
  · have := hB.size
    simp [Sort.ahead]
    omega
  · rw [heap_grow_old _ _ (by simp; omega)]
    simp only [putRow, mapBlock, heap_ahead, Array.getElem?_modify]
    rw [if_neg (by omega)]
    exact hB.block i hi
theorem kept_put_row {k : IntKind} {g m : Nat} {os : Array Obj} {w : World} {d : Array Int} {S : Nat → Prop} (hS : S g) : Kept w (grow (putRow (Value.int k) (Sort.ahead w m) g 0 d) os) S := by
  refine ⟨by simp [Sort.ahead], fun i hi hn => ?_⟩
  rw [heap_grow_old _ _ (by simpa using hi)]
  simp only [putRow, mapBlock, heap_ahead, Array.getElem?_modify]
  rw [if_neg (fun e : g = i => hn (e ▸ hS))]

def slices_Sort_int_int.f (l0 : List Int) : Option (List Int) := if l0.length < 4611686018427387904 then some (Kit.isort l0) else none
theorem slices_Sort_int_int.calls (P0_ : Nat → Prop) (u9000_ : Value) (l0 : List Int) (r : List Int) (w0 w : World) (hB : Below w0.heap.size w0 w) (ho0 : Kd.R (Kd.int .i64) 3 w w0.heap.size P0_ u9000_ l0) (h : slices_Sort_int_int.f l0 = some r) :
    Calls Try.prog 68 #[u9000_] w fun e w' => e = .returned (.tuple #[]) ∧ Kd.R (Kd.int .i64) 3 w' w0.heap.size (fun k_ => (P0_ k_ ∨ w.heap.size ≤ k_)) u9000_ r ∧ Below w0.heap.size w0 w' ∧ Kept w w' (fun k_ => P0_ k_) := by
  unfold slices_Sort_int_int.f at h
  split at h
  case isFalse => cases h
  rename_i hsz
  injection h with h
  subst h
  obtain ⟨h0, ho⟩ := R_int_own ho0
  have ho' := ho
  rcases ho'.2 with ⟨rfl, hn⟩ | ⟨g, cap, cur, rfl, hb, hh, hn, hc, hs, ht⟩
  · have : l0 = [] := List.eq_nil_of_length_eq_zero hn
    subst this
    refine (Try.slices_Sort_int_none none 0 w).mono ?_
    rintro e w' ⟨rfl, rfl⟩
    exact ⟨rfl, Kd.R_nil _ _ _ _ _, hB, Kept.refl _ _⟩
  · obtain ⟨hH, hg⟩ := holds_of_own ho
    refine (Try.slices_Sort_int g 0 cap l0 w hH hg hsz).mono ?_
    rintro e w' ⟨rfl, m, os, rfl⟩
    rw [Kit.mergeSort_isort]
    refine ⟨rfl, R_int_mk (fun j hj => .inl (h0 j hj)) ?_, below_put_row hB hb hB.size, kept_put_row (h0 g rfl)⟩
    exact own_put_row (Kit.isort_length l0) ho

end Go.Proofs.Ytnakkdaeehglnaa.P

namespace Go.Proofs.Ytnakkdaeehglnaa.P
open Go.RowKit Go.Proofs.YtnakkdaeehglnaaW.PrintWords Go.Proofs.YtnakkdaeehglnaaW.PrintLast Go.Proofs.YtnakkdaeehglnaaW.PrintMore
attribute [local go_sem] max2_int min2_int max_two min_two max_three min_three max_four min_four   -- for this text's walks alone
set_option linter.unusedVariables false
set_option linter.unusedSimpArgs false

/-! ### flash_sized: function 41 -/
def flash_sized.f (a0 : Int) : Option (Bool) := if a0 ≥ 1 then (some (decide (a0 ≤ 12))) else (some false)
set_option maxHeartbeats 8000000 in
set_option maxRecDepth 100000 in
theorem flash_sized.calls (a0 : Int) (r : Bool) (w : World) (h : flash_sized.f a0 = some r) :
    Calls Try.prog 41 #[.int .i64 a0] w fun e w' => e = .returned (.bool r) ∧ Drawn0 w w' := by
  have H : (if a0 ≥ 1 then (some (decide (a0 ≤ 12))) else (some false)) = some r := h
  clear h
  by_cases c2 : a0 ≥ 1
  · rw [if_pos c2] at H
    have c2b0 : decide (1 ≤ a0) = true := decide_eq_true c2
    clear c2
    obtain rfl := Option.some.inj H
    go_enter Try.func41, Try.ntmps41
    go_wp2
    go_ret
    exact ⟨by first | rfl | (simp; done) | (simp [*]; done), by repeat (first | exact Drawn0.refl _ | apply Drawn0.step)⟩
  · rw [if_neg c2] at H
    have c2b0 : decide (1 ≤ a0) = false := decide_eq_false c2
    clear c2
    obtain rfl := Option.some.inj H
    go_enter Try.func41, Try.ntmps41
    go_wp2
    go_ret
    exact ⟨by first | rfl | (simp; done) | (simp [*]; done), by repeat (first | exact Drawn0.refl _ | apply Drawn0.step)⟩

end Go.Proofs.Ytnakkdaeehglnaa.P

set_option linter.unusedSimpArgs false
set_option linter.unusedVariables false
namespace Go.Proofs.Ytnakkdaeehglnaa.P
open Go.Lib Go.RowKit Go.Proofs.YtnakkdaeehglnaaW.PrintWords Go.Proofs.YtnakkdaeehglnaaW.PrintLast Go.Proofs.YtnakkdaeehglnaaW.PrintMore Go.Proofs.Ytnakkdaeehglnaa.Kit
attribute [local go_sem] max2_int min2_int max_two min_two max_three min_three max_four min_four

def stOut (n x : Int) : Bool := decide (x < 0) || decide (((2 ^ n.toNat : Nat) : Int) ≤ x)
def flash_listed.f (n : Int) (l : List Int) : Option Int :=
  if 1 ≤ n ∧ n ≤ 12 then (if (l.length : Int) > ((2 ^ n.toNat : Nat) : Int) then some 3 else if l.length = 0 then some 2 else if l.any (stOut n) = true then some 2 else some 0) else some 2
theorem w2 {n : Nat} (h : n ≤ 12) : wrap64 (2 ^ n) = ((2 ^ n : Nat) : Int) := by
  have hp : 2 ^ n ≤ 2 ^ 12 := Nat.pow_le_pow_right (by decide) h
  have hp' : 2 ^ n ≤ 4096 := hp
  rw [show ((2 : Int) ^ n) = ((2 ^ n : Nat) : Int) from by simp]
  exact w64 (by generalize 2 ^ n = p at *; omega) (by generalize 2 ^ n = p at *; omega)
set_option maxHeartbeats 4000000 in
theorem listed1_pred (n : Nat) (h1 : 1 ≤ n) (h2 : n ≤ 12) (B : Nat) (w : World) (hc : w.cell? ⟨B, 0, none⟩ = some (.int .i64 (n : Int))) (hlt : B < w.heap.size) :
    PredAt Try.prog 66 #[.pointer (some ⟨B, 0, none⟩)] (fun x : Int => .int .i64 x) (stOut n) w := by
  intro W x hW
  have hcW : W.cell? ⟨B, 0, none⟩ = some (.int .i64 (n : Int)) := (hW.cell (p := ⟨B, 0, none⟩) hlt).trans hc
  show Calls _ _ #[.int .i64 x, .pointer (some ⟨B, 0, none⟩)] W _
  clear hW hc hlt
  by_cases hx : x < 0
  · have hx' : decide (x < 0) = true := decide_eq_true hx
    have hr : stOut n x = true := by unfold stOut; rw [hx']; rfl
    rw [hr]
    clear hr hx
    go_enter Try.func66, Try.ntmps66
    go_wp2
    go_ret
    exact ⟨rfl, 0, rfl⟩
  · have hx' : decide (x < 0) = false := decide_eq_false hx
    have hr : stOut n x = decide (((2 ^ n : Nat) : Int) ≤ x) := by unfold stOut; rw [hx']; rfl
    rw [hr]
    clear hr hx
    have hp : n ≤ 12 := by omega
    have hp0 : (0 : Int) ≤ n := by omega
    have hs0 : wrap64 (2 ^ n) = ((2 ^ n : Nat) : Int) := w2 hp
    generalize ((2 ^ n : Nat) : Int) = Z at hs0 ⊢
    go_enter Try.func66, Try.ntmps66
    go_wp2
    go_ret
    exact ⟨rfl, 0, rfl⟩
set_option maxHeartbeats 4000000 in
set_option maxRecDepth 100000 in
theorem flash_listed.calls (a0 : Int) (A1 : Option Addr) (c1 : Nat) (l1 : List Int) (r : Int) (w : World) (hr1 : Kd.C (Kd.int .i64) w A1 l1.length l1) (hc1 : l1.length ≤ c1) (h : flash_listed.f a0 l1 = some r) :
    Calls Try.prog 50 #[.int .i64 a0, .slice A1 l1.length c1] w fun e w' => e = .returned (.int .i64 r) ∧ Below w.heap.size w w' := by
  have HR1 := Aside0.mk hr1
  have HC1 := Aside0.mk hc1
  have HB := Aside0.mk (Below.refl w.heap.size w)
  clear hr1 hc1
  unfold flash_listed.f at h
  by_cases hn : 1 ≤ a0 ∧ a0 ≤ 12
  · rw [if_pos hn] at h
    have S1 : flash_sized.f a0 = some true := by unfold flash_sized.f; rw [if_pos (by omega), decide_eq_true (by omega)]
    have S1' := Aside0.mk S1
    obtain ⟨n, rfl⟩ : ∃ n : Nat, a0 = n := ⟨a0.toNat, by omega⟩
    rw [Int.toNat_natCast] at h
    have HN := Aside0.mk (show 1 ≤ n ∧ n ≤ 12 by omega)
    have hp0 : (0 : Int) ≤ n := by omega
    have hs1 : wrap64 (2 ^ min n 64) = ((2 ^ n : Nat) : Int) := by rw [show min n 64 = n from by omega, w2 (by omega)]
    have hs3 : ¬ (((2 ^ n : Nat) : Int) < 0) := Int.not_lt.2 (Int.natCast_nonneg _)
    generalize hZ : 2 ^ n = Z at h hs1 hs3
    have HZ := Aside0.mk hZ
    clear S1 hn hZ
    by_cases hl : (l1.length : Int) > Z
    · rw [if_pos hl] at h
      injection h with h
      subst h
      have hl0 : decide ((Z : Int) < (l1.length : Int)) = true := decide_eq_true hl
      have hl1 : decide (Z < l1.length) = true := decide_eq_true (by omega)
      clear hl
      go_enter Try.func50, Try.ntmps50
      go_wp2_with (go_at_call 41; (with_reducible refine (flash_sized.calls n true _ S1'.out).mono ?_); rintro e w' ⟨rfl, ⟨nd, rfl⟩⟩)
      go_ret
      exact ⟨rfl, by repeat (first | (with_reducible first | exact HB.out | apply below_alloc | apply pw_below_drewN | apply below_drew1) | exact HB.out)⟩
    rw [if_neg hl] at h
    have hl0 : decide ((Z : Int) < (l1.length : Int)) = false := decide_eq_false hl
    have hl1 : decide (Z < l1.length) = false := decide_eq_false (by omega)
    clear hl
    by_cases hl : l1.length = 0
    · rw [if_pos hl] at h
      injection h with h
      subst h
      have hl0 : decide ((l1.length : Int) = 0) = true := decide_eq_true (by omega)
      have hl1 : decide (l1.length = 0) = true := decide_eq_true (by omega)
      have hl5 : ((l1.length : Int) == 0) = true := by simpa using hl
      have hl2 : decide (l1 = []) = true := decide_eq_true (List.eq_nil_of_length_eq_zero hl)
      clear hl
      go_enter Try.func50, Try.ntmps50
      go_wp2_with (go_at_call 41; (with_reducible refine (flash_sized.calls n true _ S1'.out).mono ?_); rintro e w' ⟨rfl, ⟨nd, rfl⟩⟩)
      go_ret
      exact ⟨rfl, by repeat (first | (with_reducible first | exact HB.out | apply below_alloc | apply pw_below_drewN | apply below_drew1) | exact HB.out)⟩
    rw [if_neg hl] at h
    have hl3 : decide ((l1.length : Int) = 0) = false := decide_eq_false (by omega)
    have hl4 : decide (l1.length = 0) = false := decide_eq_false (by omega)
    have hl5 : ((l1.length : Int) == 0) = false := by simpa using hl
    have hl2 : decide (l1 = []) = false := decide_eq_false (fun e => hl (by rw [e]; rfl))
    clear hl
    obtain ⟨b, hb⟩ : ∃ b, l1.any (stOut (n : Int)) = b := ⟨_, rfl⟩
    rw [hb] at h
    have Hb := Aside0.mk hb
    clear hb
    have hpred : ∀ nd, PredAt Try.prog 66 #[.pointer (some ⟨w.heap.size, 0, none⟩)] (fun x : Int => .int .i64 x) (stOut n) ((w.alloc (Obj.cells #[Value.int IntKind.i64 ↑n] 3)).drewN nd) := fun nd => listed1_pred n HN.out.1 HN.out.2 w.heap.size _ (cell_new w _ _) (by show _ < (w.alloc _).heap.size; simp)
    have hcon : ∀ nd, Calls Try.prog 65 #[.slice A1 l1.length c1, .func (.func 66) #[] #[.pointer (some ⟨w.heap.size, 0, none⟩)]] ((w.alloc (Obj.cells #[Value.int IntKind.i64 ↑n] 3)).drewN nd) fun e w' => e = .returned (.bool b) ∧ Drawn0 ((w.alloc (Obj.cells #[Value.int IntKind.i64 ↑n] 3)).drewN nd) w' := by
      intro nd
      rw [← Hb.out]
      exact contains_calls _ _ _ (enters_of Try.func66 (by kernel_rfl) rfl) A1 c1 l1 _ (Kd.C_below HR1.out (pw_below_drewN (below_alloc HB.out _) _)) (hpred nd)
    have HC := Aside0.mk hcon
    clear hpred hcon
    cases b with
    | true =>
      rw [if_pos rfl] at h
      injection h with h
      subst h
      go_enter Try.func50, Try.ntmps50
      go_wp2_with (first | (go_at_call 41; (with_reducible refine (flash_sized.calls n true _ S1'.out).mono ?_); rintro e w' ⟨rfl, ⟨nd, rfl⟩⟩) | (go_at_call 65; (with_reducible refine (HC.out _).mono ?_); rintro e w' ⟨rfl, ⟨nd2, rfl⟩⟩))
      go_ret
      exact ⟨rfl, by repeat (first | (with_reducible first | exact HB.out | apply below_alloc | apply pw_below_drewN | apply below_drew1) | exact HB.out)⟩
    | false =>
      rw [if_neg (by decide)] at h
      injection h with h
      subst h
      go_enter Try.func50, Try.ntmps50
      go_wp2_with (first | (go_at_call 41; (with_reducible refine (flash_sized.calls n true _ S1'.out).mono ?_); rintro e w' ⟨rfl, ⟨nd, rfl⟩⟩) | (go_at_call 65; (with_reducible refine (HC.out _).mono ?_); rintro e w' ⟨rfl, ⟨nd2, rfl⟩⟩))
      go_ret
      exact ⟨rfl, by repeat (first | (with_reducible first | exact HB.out | apply below_alloc | apply pw_below_drewN | apply below_drew1) | exact HB.out)⟩
  · rw [if_neg hn] at h
    injection h with h
    subst h
    have S1 : flash_sized.f a0 = some false := by
      unfold flash_sized.f
      by_cases h1 : a0 ≥ 1
      · rw [if_pos h1, decide_eq_false (by omega)]
      · rw [if_neg h1]
    have S1' := Aside0.mk S1
    clear S1 hn
    go_enter Try.func50, Try.ntmps50
    go_wp2_with (go_at_call 41; (with_reducible refine (flash_sized.calls a0 false _ S1'.out).mono ?_); rintro e w' ⟨rfl, ⟨nd, rfl⟩⟩)
    go_ret
    exact ⟨rfl, by repeat (first | (with_reducible first | exact HB.out | apply below_alloc | apply pw_below_drewN | apply below_drew1) | exact HB.out)⟩
end Go.Proofs.Ytnakkdaeehglnaa.P

set_option linter.unusedSimpArgs false
set_option linter.unusedVariables false
namespace Go.Proofs.Ytnakkdaeehglnaa.P
open Go.Lib Go.RowKit Go.Proofs.YtnakkdaeehglnaaW.PrintWords Go.Proofs.YtnakkdaeehglnaaW.PrintLast Go.Proofs.YtnakkdaeehglnaaW.PrintMore Go.Proofs.Ytnakkdaeehglnaa.Kit
attribute [local go_sem] max2_int min2_int max_two min_two max_three min_three max_four min_four

/-- The neighbour in tube t. -/
def flip (s : Int) (t : Nat) : Int := ((s.toNat ^^^ 2 ^ t : Nat) : Int)
def nearB (s o : Int) : Bool := o == s || nx o s
def lastI (l : List Int) : Int := rd l ((l.length : Int) - 1)
/-- What can be put behind a list, in the order of tubes, up to tube t. -/
def addable (l : List Int) (t : Nat) : List Int := ((List.range t).map (flip (lastI l))).filter fun s => !(l.take (l.length - 1)).any (nearB s)
def flash_grown.f (n : Int) (l : List Int) : Option (List Int) :=
  if (1 ≤ n ∧ n ≤ 12 ∧ 0 < l.length) ∧ l.all small = true then some (isort (addable l n.toNat)) else none
theorem flip_small {s : Int} (h : small s = true) {t : Nat} (ht : t < 12) : small (flip s t) = true := by
  have h := of_decide_eq_true h
  have hp : 2 ^ t ≤ 2 ^ 11 := Nat.pow_le_pow_right (by decide) (by omega)
  have hp' : 2 ^ t ≤ 2048 := hp
  have := small_xor (a := s.toNat) (b := 2 ^ t) (by omega) (by omega)
  unfold flip
  exact decide_eq_true (by omega)
theorem flip_xor {s : Int} (h : small s = true) {t : Nat} (ht : t < 12) : Go.bits .xor .i64 s ((2 ^ t : Nat) : Int) = flip s t := by
  have h := of_decide_eq_true h
  have hp : 2 ^ t ≤ 2 ^ 11 := Nat.pow_le_pow_right (by decide) (by omega)
  have hp' : 2 ^ t ≤ 2048 := hp
  obtain ⟨m, rfl⟩ : ∃ m : Nat, s = m := ⟨s.toNat, by omega⟩
  unfold flip
  rw [xor64 m (2 ^ t) (by omega) (by omega), Int.toNat_natCast]
theorem addable_succ (l : List Int) (t : Nat) : addable l (t + 1) = addable l t ++ if (l.take (l.length - 1)).any (nearB (flip (lastI l) t)) = true then [] else [flip (lastI l) t] := by
  unfold addable
  rw [List.range_succ, List.map_append, List.filter_append, List.map_singleton]
  congr 1
  cases h : (l.take (l.length - 1)).any (nearB (flip (lastI l) t)) <;> simp [List.filter_cons, h]
theorem addable_len (l : List Int) (t : Nat) : (addable l t).length ≤ t := by
  unfold addable
  refine Nat.le_trans (List.length_filter_le _ _) ?_
  rw [List.length_map, List.length_range]
  exact Nat.le_refl _
abbrev SmallI := {x : Int // small x = true}
instance : Inhabited SmallI := ⟨⟨0, rfl⟩⟩

theorem contains_small (g : Nat) (lb : Array Value) (p : Int → Bool) (eg : ∀ args w, (callFunc g args).run Try.prog w = .ok (.enter g args) w) (A : Option Addr) (c : Nat) (l : List Int) (w : World)
    (hr : Kd.C (Kd.int .i64) w A l.length l) (hs : l.all small = true) (hp : PredAt Try.prog g lb (fun x : SmallI => .int .i64 x.val) (fun x => p x.val) w) :
    Calls Try.prog 65 #[.slice A l.length c, .func (.func g) #[] lb] w fun e w' => e = .returned (.bool (l.any p)) ∧ Drawn0 w w' := by
  obtain ⟨zs, rfl⟩ : ∃ zs : List SmallI, l = zs.map (·.val) := ⟨l.attachWith (fun x => small x = true) (List.all_eq_true.1 hs), by simp⟩
  rcases Nat.eq_zero_or_pos zs.length with h0 | h0
  · have : zs = [] := List.eq_nil_of_length_eq_zero h0
    subst this
    refine (Try.slices_ContainsFunc_empty (α := Int) A c _ w).mono ?_
    rintro e w' ⟨rfl, rfl⟩
    exact ⟨rfl, Drawn0.refl _⟩
  · obtain ⟨b, off, rfl, hc⟩ := C_plain hr (by rw [List.length_map]; exact h0)
    have hl := C_len hr
    rw [List.length_map] at hc hl ⊢
    refine (Try.slices_ContainsFunc (fun x : SmallI => .int .i64 x.val) (fun x => p x.val) g lb eg b off zs.length c zs w hp (Nat.le_refl _) hl (fun j hj => ?_)).mono ?_
    · rw [hc j hj]
      simp [getElem!_pos, hj]
    · rintro e w' ⟨rfl, q, rfl⟩
      rw [List.take_length, List.any_map]
      exact ⟨rfl, ⟨⟨q, rfl⟩⟩⟩
set_option maxHeartbeats 4000000 in
theorem grown1_pred (s : Int) (hs : small s = true) (B : Nat) (w : World) (hc : w.cell? ⟨B, 0, none⟩ = some (.int .i64 s)) (hlt : B < w.heap.size) :
    PredAt Try.prog 67 #[.pointer (some ⟨B, 0, none⟩)] (fun x : SmallI => .int .i64 x.val) (fun x => nearB s x.val) w := by
  intro W x hW
  obtain ⟨x, hx⟩ := x
  have hcW : W.cell? ⟨B, 0, none⟩ = some (.int .i64 s) := (hW.cell (p := ⟨B, 0, none⟩) hlt).trans hc
  show Calls _ _ #[.int .i64 x, .pointer (some ⟨B, 0, none⟩)] W fun e w' => e = .returned (.bool (nearB s x)) ∧ ∃ q, w' = W.drewN q
  have HN := Aside0.mk (next_small hx hs)
  clear hW hc hlt hs hx
  by_cases he : x = s
  · have he' : (x == s) = true := beq_iff_eq.2 he
    have hr : nearB s x = true := by unfold nearB; rw [he']; rfl
    rw [hr]
    clear hr he
    go_enter Try.func67, Try.ntmps67
    go_wp2
    go_ret
    exact ⟨rfl, 0, rfl⟩
  · have he' : (x == s) = false := by simpa using he
    have hr : nearB s x = nx x s := by unfold nearB; rw [he']; rfl
    rw [hr]
    clear hr he
    go_enter Try.func67, Try.ntmps67
    go_wp2_with (go_at_call 63; (with_reducible refine (flash_next.calls x s (nx x s) _ HN.out).mono ?_); rintro e w' ⟨rfl, ⟨nd, rfl⟩⟩)
    go_ret
    exact ⟨rfl, _, rfl⟩
section
set_option maxHeartbeats 4000000
set_option maxRecDepth 100000
theorem flash_grown.calls (a0 : Int) (A1 : Option Addr) (c1 : Nat) (l1 : List Int) (r : List Int) (w : World) (hr1 : Kd.C (Kd.int .i64) w A1 l1.length l1) (hc1 : l1.length ≤ c1) (h : flash_grown.f a0 l1 = some r) :
    Calls Try.prog 53 #[.int .i64 a0, .slice A1 l1.length c1] w fun e w' => ∃ v0_ : Value, e = .returned v0_ ∧ Kd.R (Kd.int .i64) 3 w' w.heap.size (fun _ => True) v0_ r ∧ Below w.heap.size w w' := by
  have hlen := hr1.2.1
  unfold flash_grown.f at h
  split at h
  case isFalse => cases h
  rename_i hs
  injection h with h
  obtain ⟨⟨hn1, hn2, hl0⟩, hs⟩ := hs
  obtain ⟨ad, e1, hx⟩ := Kd.at_int hr1 ((l1.length : Int) - 1) (by omega) (by omega)
  have hm1 : wrap64 ((l1.length : Int) - 1) = (l1.length : Int) - 1 := w64 (by omega) (by omega)
  rw [show ((l1.length : Int) - 1).toNat = l1.length - 1 from by omega] at hx
  obtain ⟨n, rfl⟩ : ∃ n : Nat, a0 = n := ⟨a0.toNat, by omega⟩
  rw [Int.toNat_natCast] at h
  have HR1 := Aside0.mk hr1
  have HC1 := Aside0.mk hc1
  have HL := Aside0.mk hlen
  have HL0 := Aside0.mk hl0
  have HN := Aside0.mk (show 1 ≤ n ∧ n ≤ 12 by omega)
  have Hr := Aside0.mk h
  have HS := Aside0.mk hs
  have HB := Aside0.mk (Below.refl w.heap.size w)
  have p1 : (1 : Int) ≤ l1.length := by omega
  have p1' : 1 ≤ l1.length := by omega
  have q1 : (l1.length : Int) - 1 < l1.length := by omega
  have q3 : ((c1 : Int) < (l1.length : Int) - 1) = False := eq_false (by omega)
  have q4 : ((l1.length : Int) - 1 ≤ (c1 : Int)) = True := eq_true (by omega)
  replace p1 := eq_true p1
  replace p1' := eq_true p1'
  replace q1 := eq_true q1
  clear hr1 hc1 hlen h hs hl0 hn1 hn2
  cases e1
  go_enter Try.func53, Try.ntmps53
  go_wp2
  have hS : rd l1 ((l1.length : Int) - 1) = lastI l1 := rfl
  have hSs : small (lastI l1) = true := small_rd HS.out _
  have HSs := Aside0.mk hSs
  have HX := Aside0.mk hx
  clear hSs hx
  rw [hS, hm1]
  generalize lastI l1 = S at hS HSs
  go_loopw [5, 17] (fun v5 v17 w' => ∃ t : Nat, v17 = .int .i64 (t : Int) ∧ Aside0 (t ≤ n) ∧ Aside0 (Kd.R (Kd.int .i64) 3 w' w.heap.size (fun _ => True) v5 (addable l1 t)) ∧ Aside0 (Below w.heap.size w w')) (fun _ v _ => n - (intOf v).toNat)
  case atStart => exact ⟨0, rfl, ⟨by omega⟩, ⟨Kd.R_nil _ _ _ _ _⟩, ⟨HB.out⟩⟩
  case round =>
    clear HB
    obtain ⟨t, rfl, HT, HO, HB⟩ := hrel
    by_cases ct : (t : Int) < (n : Int)
    · have c1b : decide ((t : Int) < (n : Int)) = true := decide_eq_true ct
      have c1c : decide (t < n) = true := decide_eq_true (by omega)
      have HC := Aside0.mk (show t < n by omega)
      have p0 : (0 : Int) ≤ t := by omega
      have hw0 : wrap64 (2 ^ t) = ((2 ^ t : Nat) : Int) := w2 (by have := HN.out; omega)
      have hw1 : wrap64 (2 ^ min t 64) = ((2 ^ t : Nat) : Int) := by rw [show min t 64 = t from by have := HN.out; omega, hw0]
      have hfx := flip_xor HSs.out (t := t) (by have := HN.out; omega)
      generalize ((2 ^ t : Nat) : Int) = Z at hw0 hw1 hfx
      have hF := flip_small HSs.out (t := t) (by have := HN.out; omega)
      have hadd := addable_succ l1 t
      rw [show lastI l1 = S from hS] at hadd
      have hlt : (l1.take (l1.length - 1)).length = l1.length - 1 := by rw [List.length_take]; omega
      have hst : (l1.take (l1.length - 1)).all small = true := List.all_eq_true.2 fun x hx => List.all_eq_true.1 HS.out x (List.mem_of_mem_take hx)
      have hcw : Kd.C (Kd.int .i64) (wr.alloc (Obj.cells #[Value.int IntKind.i64 (flip S t)] 3)) (some ad) (l1.take (l1.length - 1)).length (l1.take (l1.length - 1)) := Kd.C_below (Kd.C_take HR1.out (by omega)) (below_alloc HB.out _)
      have hcall := contains_small 67 #[.pointer (some ⟨wr.heap.size, 0, none⟩)] (nearB (flip S t)) (enters_of Try.func67 (by kernel_rfl) rfl) (some ad) c1 _ _ hcw hst (grown1_pred _ hF _ _ (cell_new wr _ _) (by simp))
      rw [hlt] at hcall
      have HF := Aside0.mk hF
      have HB1 := Aside0.mk (below_alloc HB.out (Obj.cells #[Value.int IntKind.i64 (flip S t)] 3))
      have HO1 := Aside0.mk (Kd.R_alloc HO.out (Obj.cells #[Value.int IntKind.i64 (flip S t)] 3))
      cases hb : (l1.take (l1.length - 1)).any (nearB (flip S t)) with
      | true =>
        rw [hb] at hcall hadd
        rw [if_pos rfl, List.append_nil] at hadd
        have HCa := Aside0.mk hcall
        have Hadd := Aside0.mk hadd
        clear ct hcall hcw hst hadd hF hb
        go_wp2_with (go_at_call 65; (with_reducible refine (HCa.out).mono ?_); rintro e w' ⟨rfl, ⟨nd, rfl⟩⟩)
        go_roundw
        case rel => exact ⟨t + 1, by rw [w64 (x := (t : Int) + 1) (by omega) (by have := HN.out; have := HC.out; omega)]; rfl, ⟨by have := HC.out; omega⟩, ⟨by rw [Hadd.out]; exact Kd.R_drewN HO1.out _⟩, ⟨pw_below_drewN HB1.out _⟩⟩
        case measure => rw [w64 (x := (t : Int) + 1) (by omega) (by have := HN.out; have := HC.out; omega)]; have := HC.out; simp [intOf]; omega
      | false =>
        rw [hb] at hcall hadd
        rw [if_neg (by decide)] at hadd
        have HCa := Aside0.mk hcall
        have Hadd := Aside0.mk hadd
        have hal := addable_len l1 t
        have HAL := Aside0.mk hal
        clear ct hcall hcw hst hadd hF hb hal
        go_wp2_with (first | (go_at_call 65; (with_reducible refine (HCa.out).mono ?_); rintro e w' ⟨rfl, ⟨nd, rfl⟩⟩) | ((with_reducible refine gate_builtin (b := .append) (xs := #[.tmp 33, .tmp 35]) rfl ?_); at_builtin; refine Kd.R_append (Kd.int .i64) (w0 := w) w.heap.size rfl (.tmp 33) (.tmp 35) 22 3 (.int .i64 0) 8 rfl Try.underlying22 info3 rfl (by decide) (by omega) u5 (addable l1 t) (flip S t) [.int .i64 (flip S t)] (fun _ => True) (fun _ => False) rfl ?aX ?aP (fun _ hk => hk.elim) ?aF ?aO ?aB ?aS ?aL ?_; (case aX => first | rfl | (simp; done) | (show Value.slice _ 1 1 = Value.slice _ 1 1; simp; done)); (case aP => exact rfl); (case aB => exact (pw_below_drewN HB1.out _)); (case aF => exact (fun _ _ => trivial)); (case aO => exact Kd.R_drewN HO1.out _); (case aS => exact (pw_below_drewN HB1.out nd).size); (case aL => have := HAL.out; have := HC.out; have := HN.out; omega); intro v188 w22 ho hbb hg hat; rw [← Hadd.out] at ho; have HO2 := Aside0.mk ho; have HB2 := Aside0.mk hbb; clear ho hbb hg hat))
        go_roundw
        case rel => exact ⟨t + 1, by rw [w64 (x := (t : Int) + 1) (by omega) (by have := HN.out; have := HC.out; omega)]; rfl, ⟨by have := HC.out; omega⟩, ⟨HO2.out⟩, ⟨HB2.out⟩⟩
        case measure => rw [w64 (x := (t : Int) + 1) (by omega) (by have := HN.out; have := HC.out; omega)]; have := HC.out; simp [intOf]; omega
    · have c1b : decide ((t : Int) < (n : Int)) = false := decide_eq_false ct
      have c1c : decide (t < n) = false := decide_eq_false (by omega)
      have ht : t = n := by have := HT.out; omega
      subst ht
      have hsort : slices_Sort_int_int.f (addable l1 t) = some r := by
        unfold slices_Sort_int_int.f
        rw [if_pos (by have := addable_len l1 t; have := HN.out; omega), Hr.out]
      have HSo := Aside0.mk hsort
      clear ct hsort
      go_wp2_with (go_at_call 68; (with_reducible refine (slices_Sort_int_int.calls (fun _ => True) u5 (addable l1 t) r w _ ?sB ?sO HSo.out).mono ?_); (case sB => exact HB.out); (case sO => exact HO.out); rintro e w' ⟨rfl, ho, hbb, hk⟩; have HO2 := Aside0.mk ho; have HB2 := Aside0.mk hbb; clear ho hbb hk)
      go_ret
      exact ⟨_, rfl, Kd.R_mono HO2.out (fun _ _ => trivial), HB2.out⟩
end
end Go.Proofs.Ytnakkdaeehglnaa.P

set_option linter.unusedSimpArgs false
set_option linter.unusedVariables false
namespace Go.Proofs.Ytnakkdaeehglnaa.P
open Go.Lib Go.RowKit Go.Proofs.YtnakkdaeehglnaaW.PrintWords Go.Proofs.YtnakkdaeehglnaaW.PrintLast Go.Proofs.YtnakkdaeehglnaaW.PrintMore Go.Proofs.Ytnakkdaeehglnaa.Kit
attribute [local go_sem] max2_int min2_int max_two min_two max_three min_three max_four min_four

/-- The tube in which a state differs from the last one. -/
def tubeOf (l : List Int) (s : Int) : Int := (Lib.bitLen ((lastI l).toNat ^^^ s.toNat) : Int) - 1
section
variable {σ : Type} (step : σ → List Int → Option σ) (n : Nat)
/-- The visitor's states over all snakes that go on from l. -/
def srch : Nat → σ → List Int → Int → Option σ
  | 0, _, _, _ => none
  | k + 1, st, l, used =>
    if (0 < l.length ∧ l.length < 5000 ∧ 0 ≤ used ∧ used ≤ 100) ∧ l.all small = true then
      (step st l).bind fun st1 => (isort (addable l n)).foldlM (fun st s => if tubeOf l s ≤ used then srch k st (l ++ [s]) (max used (tubeOf l s + 1)) else some st) st1
    else none
end
theorem bitLenAux_le : ∀ k x, Lib.bitLenAux k x ≤ k := by
  intro k
  induction k with
  | zero => intro x; simp [Lib.bitLenAux]
  | succ k ih => intro x; simp only [Lib.bitLenAux]; have := ih (x / 2); split <;> omega
theorem bitLen_small {x : Nat} : Lib.bitLen x ≤ 64 := by
  unfold Lib.bitLen
  exact bitLenAux_le 64 x
theorem grown_small {l : List Int} (hs : l.all small = true) {n : Nat} (hn : n ≤ 12) : (isort (addable l n)).all small = true := by
  refine List.all_eq_true.2 fun x hx => ?_
  have hx := (isort_perm _).mem_iff.1 hx
  unfold addable at hx
  obtain ⟨t, ht, rfl⟩ := List.mem_map.1 (List.mem_filter.1 hx).1
  exact flip_small (small_rd hs _) (by have := List.mem_range.1 ht; omega)
theorem cell_kept {W W' : World} {S : Nat → Prop} (h : Kept W W' S) {a : Addr} {v : Value} (hc : W.cell? a = some v) (hn : ¬ S a.block) : W'.cell? a = some v := by
  have hb := World.block_lt_of_cell? W a hc
  have := h.2 a.block hb hn
  unfold World.cell? at *
  rw [this]
  exact hc
/-- A list of numbers lies outside a box that holds a slice. -/
theorem C_kept {W W' : World} {Bb : Nat} {A0 : Option Addr} {k0 c0 : Nat} {t0 : TypeId} {f0 : Nat × Nat} (hb : W.heap[Bb]? = some (.cells #[.slice A0 k0 c0] t0 f0)) (h : Kept W W' (fun k => k = Bb)) {A : Option Addr} {l : List Int}
    (hC : Kd.C (Kd.int .i64) W A l.length l) : Kd.C (Kd.int .i64) W' A l.length l := by
  refine ⟨hC.1, hC.2.1, fun h0 => ?_⟩
  obtain ⟨ad, e, hr⟩ := hC.2.2 h0
  refine ⟨ad, e, fun j p hj => ?_⟩
  obtain ⟨c, h1, h2, h3⟩ := hr j p hj
  refine ⟨c, h1, h2, fun i u hu => ?_⟩
  have hcell := h3 i u hu
  refine cell_kept h hcell (fun hB => ?_)
  have hcs : c = [Value.int .i64 p] := h2
  subst hcs
  have hu' : u = Value.int .i64 p := by
    cases i with
    | zero => simp at hu; exact hu.symm
    | succ i => simp at hu
  subst hu'
  unfold World.cell? at hcell
  rw [hB, hb] at hcell
  simp only at hcell
  split at hcell
  · cases hcell
  · generalize (ad.add _).off = o at hcell
    cases o with
    | zero => simp at hcell
    | succ o => simp at hcell
theorem C_cells {k : IntKind} {W : World} {ad : Addr} {l : List Int} (h : Kd.C (Kd.int k) W (some ad) l.length l) (b : Addr) (hb : some ad = some b) (j : Nat) (u : Value) (hu : (nums k l)[j]? = some u) : W.cell? (b.add j) = some u := by
  injection hb with hb
  subst hb
  have hj : j < l.length := by
    have := (List.getElem?_eq_some_iff.1 hu).1
    rw [nums_length] at this
    exact this
  obtain ⟨ad', e', h1⟩ := Kd.at_int h (j : Int) (by omega) (by omega)
  injection e' with e'
  subst e'
  rw [rd_get l j hj, Int.toNat_natCast] at h1
  rw [h1, ← hu]
  simp [nums, List.getElem?_eq_getElem hj]
theorem news_one {W : World} {H : Nat} {v : Value} (hc : W.cell? ⟨H, 0, none⟩ = some v) (j : Nat) (u : Value) (hu : [v][j]? = some u) : W.cell? ((⟨H, 0, none⟩ : Addr).add j) = some u := by
  cases j with
  | zero => simp at hu; subst hu; exact hc
  | succ j => simp at hu
theorem appended {k : IntKind} {W : World} {base e : Nat} {v : Value} {l : List Int} {s : Int} (h : W.ownsRow base e 1 v (l.length + 1) (nums k l ++ [.int k s])) :
    ∃ A c, v = .slice A (l ++ [s]).length c ∧ (l ++ [s]).length ≤ c ∧ Kd.C (Kd.int k) W A (l ++ [s]).length (l ++ [s]) := by
  have hl : (l ++ [s]).length = l.length + 1 := by simp
  have h2 : W.ownsRow base e 1 v (l ++ [s]).length (nums k (l ++ [s])) := by rw [hl, nums_append]; exact h
  exact Kd.R_reads (R_int_mk (ok := fun _ => True) (fun _ _ => trivial) h2)
theorem gate_op {P : Program} {ops : Array Oper} {o : Oper} {a : Act} {w : World} {K : Act → World → Prop} {Q : Exit → Act → World → Prop} {E : Prop} (x : Op) (_h : o.op = x)
    (k : if Region.wanted o (yielded ops a.tmps) = true then Oper.wp P o a w K Q else E) : if Region.wanted o (yielded ops a.tmps) = true then Oper.wp P o a w K Q else E := k
theorem bits_len_small {a b : Int} (ha : small a = true) (hb : small b = true) : bits_Len.f (IntKind.u64.wrap (Go.bits .xor .i64 a b)) = some (Lib.bitLen (a.toNat ^^^ b.toNat) : Int) := by
  have ha := of_decide_eq_true ha
  have hb := of_decide_eq_true hb
  obtain ⟨m, rfl⟩ : ∃ m : Nat, a = m := ⟨a.toNat, by omega⟩
  obtain ⟨n, rfl⟩ : ∃ n : Nat, b = n := ⟨b.toNat, by omega⟩
  have hx := small_xor (a := m) (b := n) (by omega) (by omega)
  have e : Go.bits .xor .i64 (m : Int) (n : Int) = ((m ^^^ n : Nat) : Int) := xor64 m n (by omega) (by omega)
  have e2 : IntKind.u64.wrap ((m ^^^ n : Nat) : Int) = ((m ^^^ n : Nat) : Int) := u64w (by omega)
  rw [e, e2, Int.toNat_natCast, Int.toNat_natCast]
  unfold bits_Len.f
  rw [if_pos (by omega), Int.toNat_natCast]

section
variable {σ : Type} {step : σ → List Int → Option σ} {n : Nat} {J : σ → World → Prop} {B Bb g : Nat} {lb : Array Value}
/-- What is asked of the visitor. -/
structure Visits (step : σ → List Int → Option σ) (J : σ → World → Prop) (B Bb g : Nat) (lb : Array Value) : Prop where
  eg : ∀ args w, (callFunc g args).run Try.prog w = .ok (.enter g args) w
  le : B ≤ Bb
  box : ∀ st W, J st W → ∃ A k c, W.heap[Bb]? = some (.cells #[.slice A k c] 22 (0, 0))
  keep : ∀ st W W', J st W → Below W.heap.size W W' → J st W'
  visit : ∀ st st' (l : List Int) A c W, step st l = some st' → l.all small = true → 0 < l.length → l.length < 5000 → J st W → Kd.C (Kd.int .i64) W A l.length l → l.length ≤ c →
    Calls Try.prog g (#[.slice A l.length c] ++ lb) W fun e w' => e = .returned (.tuple #[]) ∧ J st' w' ∧ Kept W w' (fun k => k = Bb) ∧ Below B W w'
structure OnAt (n B Bb g : Nat) (lb : Array Value) (Bv Bn Bo : Nat) (W : World) : Prop where
  v : W.cell? ⟨Bv, 0, none⟩ = some (.func (.func g) #[] lb)
  n : W.cell? ⟨Bn, 0, none⟩ = some (.int .i64 (n : Int))
  o : W.cell? ⟨Bo, 0, none⟩ = some (.func (.func 62) #[] #[.pointer (some ⟨Bv, 0, none⟩), .pointer (some ⟨Bn, 0, none⟩), .pointer (some ⟨Bo, 0, none⟩)])
  nv : Bv ≠ Bb
  nn : Bn ≠ Bb
  no : Bo ≠ Bb
theorem OnAt.kept {Bv Bn Bo : Nat} {W W' : World} (h : OnAt n B Bb g lb Bv Bn Bo W) (hk : Kept W W' (fun k => k = Bb)) : OnAt n B Bb g lb Bv Bn Bo W' :=
  ⟨cell_kept hk h.v h.nv, cell_kept hk h.n h.nn, cell_kept hk h.o h.no, h.nv, h.nn, h.no⟩
set_option maxHeartbeats 4000000
set_option maxRecDepth 100000
theorem on_calls (V : Visits step J B Bb g lb) (hn : 1 ≤ n ∧ n ≤ 12) (Bv Bn Bo : Nat) : ∀ (k : Nat) (st st' : σ) (l : List Int) (used : Int) (A : Option Addr) (c : Nat) (W : World),
    srch step n k st l used = some st' → J st W → OnAt n B Bb g lb Bv Bn Bo W → Kd.C (Kd.int .i64) W A l.length l → l.length ≤ c →
    Calls Try.prog 62 #[.slice A l.length c, .int .i64 used, .pointer (some ⟨Bv, 0, none⟩), .pointer (some ⟨Bn, 0, none⟩), .pointer (some ⟨Bo, 0, none⟩)] W fun e w' => e = .returned (.tuple #[]) ∧ J st' w' ∧ Kept W w' (fun k => k = Bb) ∧ Below B W w' := by
  intro k
  induction k with
  | zero => intro st st' l used A c W h; cases h
  | succ k ih =>
    intro st st' l used A c W h hJ hO hC hc
    have hv := hO.v
    unfold srch at h
    split at h
    case isFalse => cases h
    rename_i hg
    obtain ⟨⟨h0, h5, hu0, hu1⟩, hs⟩ := hg
    obtain ⟨st1, hs1, h⟩ := Option.bind_eq_some_iff.1 h
    have hm1 : wrap64 ((l.length : Int) - 1) = (l.length : Int) - 1 := w64 (by omega) (by omega)
    obtain ⟨ad, e1, -⟩ := Kd.at_int hC ((l.length : Int) - 1) (by omega) (by omega)
    subst e1
    obtain ⟨A0, k0, c0, hbox⟩ := V.box st W hJ
    have HV := Aside0.mk (V.visit st st1 l (some ad) c W hs1 hs h0 h5 hJ hC hc)
    have HN := Aside0.mk (fun w1 (hk1 : Kept W w1 (fun k => k = Bb)) => (hO.kept hk1).n)
    have HX := Aside0.mk (fun w1 (hk1 : Kept W w1 (fun k => k = Bb)) => (show w1.cell? (ad.add (l.length - 1)) = some (.int .i64 (lastI l)) from by
      obtain ⟨ad', e1, hx⟩ := Kd.at_int (C_kept hbox hk1 hC) ((l.length : Int) - 1) (by omega) (by omega)
      injection e1 with e1
      subst e1
      rw [show ((l.length : Int) - 1).toNat = l.length - 1 from by omega] at hx
      exact hx))
    have HC1 := Aside0.mk (fun w1 (hk1 : Kept W w1 (fun k => k = Bb)) => C_kept hbox hk1 hC)
    have HC0 := Aside0.mk hc
    obtain ⟨gr, hgr⟩ : ∃ gr, isort (addable l n) = gr := ⟨_, rfl⟩
    have hgf : flash_grown.f (n : Int) l = some gr := by
      unfold flash_grown.f
      rw [if_pos ⟨⟨by omega, by omega, h0⟩, hs⟩, Int.toNat_natCast, hgr]
    have HGf := Aside0.mk hgf
    rw [hgr] at h
    have HF := Aside0.mk h
    clear h hgf
    have eg := V.eg
    have p1 : (1 : Int) ≤ l.length := by omega
    have p1' : 1 ≤ l.length := by omega
    have q1 : (l.length : Int) - 1 < l.length := by omega
    replace p1 := eq_true p1
    replace p1' := eq_true p1'
    replace q1 := eq_true q1
    go_enter Try.func62, Try.ntmps62
    go_wp2_with (first | (go_at_call 53; (with_reducible refine (flash_grown.calls (n : Int) (some ad) c l gr w1 (HC1.out w1 HK1.out) HC0.out HGf.out).mono ?_); rintro e w2 ⟨v0, rfl, hR, hbb⟩; obtain ⟨A2, c2, rfl, hcc2, hC2⟩ := Kd.R_reads hR; have HC2 := Aside0.mk hC2; have HC3 := Aside0.mk hcc2; have HBB := Aside0.mk hbb; clear hR hbb hC2 hcc2) | (go_at_fn g; (with_reducible refine (HV.out).mono ?_); rintro e w1 ⟨rfl, hJ1, hk1, hb1⟩; have hn1 := HN.out w1 hk1; have hx1 := HX.out w1 hk1; have HJ1 := Aside0.mk hJ1; have HK1 := Aside0.mk hk1; have HB1 := Aside0.mk hb1; clear hJ1 hk1 hb1))
    have HO := Aside0.mk (fun w1 (hk1 : Kept W w1 (fun k => k = Bb)) => hO.kept hk1)
    have hgs : gr.all small = true := by rw [← hgr]; exact grown_small hs hn.2
    have HGS := Aside0.mk hgs
    have HU := Aside0.mk (show 0 ≤ used ∧ used ≤ 100 ∧ l.length < 5000 from ⟨hu0, hu1, h5⟩)
    have HSm := Aside0.mk hs
    have hgl : gr.length ≤ 9223372036854775807 := HC2.out.2.1
    have HGL := Aside0.mk hgl
    have HK2 := Aside0.mk (HK1.out.below HBB.out)
    have HB2 := Aside0.mk (below_then HB1.out (by have := V.le; obtain ⟨_, _, _, hx⟩ := V.box _ _ HJ1.out; have := (Array.getElem?_eq_some_iff.1 hx).1; omega) HBB.out)
    have HJ2 := Aside0.mk (V.keep _ _ _ HJ1.out HBB.out)
    clear hv hs hgs hgl hx1 hn1 hu0 hu1 h5 hO hC hc hbox hJ hs1
    clear hgr h0
    go_loopw [24] (fun v24 w' => ∃ i : Nat, v24 = .int .i64 (i : Int) ∧ Aside0 (i ≤ gr.length) ∧ Aside0 (∃ sti, (gr.drop i).foldlM (fun st s => if tubeOf l s ≤ used then srch step n k st (l ++ [s]) (max used (tubeOf l s + 1)) else some st) sti = some st' ∧ J sti w') ∧ Aside0 (Kept W w' (fun k => k = Bb)) ∧ Aside0 (Below B W w') ∧ Aside0 (Kd.C (Kd.int .i64) w' A2 gr.length gr)) (fun v _ => gr.length - (intOf v).toNat)
    case atStart => exact ⟨0, rfl, ⟨Nat.zero_le _⟩, ⟨st1, HF.out, HJ2.out⟩, ⟨HK2.out⟩, ⟨HB2.out⟩, ⟨HC2.out⟩⟩
    case round =>
      clear HF HC2 HBB HJ1 HK1 HB1 HK2 HB2 HJ2 HV
      obtain ⟨i, rfl, HI, HS, HK, HB, HCg⟩ := hrel
      by_cases ct : (i : Int) < (gr.length : Int)
      · have c1b : decide ((i : Int) < (gr.length : Int)) = true := decide_eq_true ct
        have c1c : decide (i < gr.length) = true := decide_eq_true (by omega)
        have hi : i < gr.length := by omega
        have Hi := Aside0.mk hi
        have q0 := eq_true ct
        have q0' := eq_true hi
        have p0 : (0 : Int) ≤ i := by omega
        obtain ⟨ad2, e2, hx2⟩ := Kd.at_int HCg.out (i : Int) p0 ct
        rw [Int.toNat_natCast] at hx2
        obtain ⟨sti, hf, hJi⟩ := HS.out
        have hrd := rd_get gr i hi
        rw [List.drop_eq_getElem_cons hi, List.foldlM_cons, ← hrd] at hf
        have hss : small (rd gr (i : Int)) = true := small_rd HGS.out _
        generalize hsx : rd gr (i : Int) = s at hf hx2 hss
        have hll : small (lastI l) = true := small_rd HSm.out _
        have hbl := bits_len_small hll hss
        obtain ⟨bl, hble⟩ : ∃ bl : Int, (Lib.bitLen ((lastI l).toNat ^^^ s.toNat) : Int) = bl := ⟨_, rfl⟩
        have hT : tubeOf l s = bl - 1 := by unfold tubeOf; rw [hble]
        have hbound : 0 ≤ bl ∧ bl ≤ 64 := by
          rw [← hble]
          have := bitLen_small (x := (lastI l).toNat ^^^ s.toNat)
          omega
        rw [hble] at hbl
        rw [hT] at hf
        have hw1 : wrap64 (bl - 1) = bl - 1 := w64 (by omega) (by omega)
        have HBL := Aside0.mk hbl
        have HBo := Aside0.mk hbound
        subst e2
        by_cases cu : bl - 1 ≤ used
        · rw [if_pos cu] at hf
          have cub : decide (bl - 1 ≤ used) = true := decide_eq_true cu
          have hw2 : wrap64 (bl - 1 + 1) = bl - 1 + 1 := w64 (by omega) (by omega)
          obtain ⟨sti2, hf1, hf2⟩ := Option.bind_eq_some_iff.1 hf
          have HF1 := Aside0.mk hf1
          have HF2 := Aside0.mk hf2
          have HJi := Aside0.mk hJi
          have HSS := Aside0.mk hss
          have HOw := Aside0.mk (HO.out wr HK.out)
          have HCl := Aside0.mk (HC1.out wr HK.out)
          have hbo := HOw.out.o
          have HBO := Aside0.mk hbo
          have hcI : (l.length : Int) ≤ (c : Int) := by have := HC0.out; omega
          have hcI0 : (0 : Int) ≤ (l.length : Int) := by omega
          have hcN : l.length ≤ c := HC0.out
          clear hf hf1 hf2 cu HS hi hrd hsx hss hll hbl hble hT hbound ct hJi
          go_wp2_with (go_at_call 59; (with_reducible refine (bits_Len.calls _ bl _ HBL.out).mono ?_); rintro e w' ⟨rfl, ⟨nd, rfl⟩⟩)
          have hi3 := info3
          obtain ⟨i0, hi0, hi1⟩ := Option.map_eq_some_iff.1 hi3
          injection hi1 with hz0 hi2
          injection hi2 with hz1 hz2
          have hI0 := Aside0.mk (show Try.prog.info? 3 = some i0 from hi0)
          have hZ0 := Aside0.mk hz0
          have hZ1 := Aside0.mk hz1
          have hZ2 := Aside0.mk hz2
          have eo : ∀ args w, (callFunc 62 args).run Try.prog w = .ok (.enter 62 args) w := enters_of Try.func62 (by kernel_rfl) rfl
          have hls : l.length < 5000 := HU.out.2.2
          have HLS := Aside0.mk hls
          rw [Int.sub_add_cancel] at hw2
          have hw3 : wrap64 (bl - 1 + 1) = bl := by rw [Int.sub_add_cancel]; exact hw2
          have hf3 := HF1.out
          rw [Int.sub_add_cancel] at hf3
          have HF3 := Aside0.mk hf3
          have hls1 : (l ++ [s]).length = l.length + 1 := by simp
          have hmx : max used bl = (if used < IntKind.i64.wrap bl then IntKind.i64.wrap bl else used) := by
            rw [show IntKind.i64.wrap bl = bl from (i64_w _).trans hw2]
            split <;> omega
          have hih : ∀ A9 c9 w9, Below wr.heap.size wr w9 → Kd.C (Kd.int .i64) w9 A9 (l ++ [s]).length (l ++ [s]) → (l ++ [s]).length ≤ c9 → _ := fun A9 c9 w9 h1 h2 h3 => ih sti sti2 (l ++ [s]) (max used bl) A9 c9 w9 HF3.out (V.keep _ _ _ HJi.out h1) (HOw.out.kept (Kept.of_below h1 _)) h2 h3
          rw [hls1, hmx] at hih
          clear hi3 hi0 hz0 hz1 hz2 hls hf3 HF1 hmx
          go_region_held3 (fun w' => w'.cell? ⟨Bo, 0, none⟩ = some (.func (.func 62) #[] #[.pointer (some ⟨Bv, 0, none⟩), .pointer (some ⟨Bn, 0, none⟩), .pointer (some ⟨Bo, 0, none⟩)])) (go_keep) (first | ((refine gate_op (.call { callee := .builtin .append, args := #[.tmp 43, .tmp 45], argTypes := #[22, 22] }) rfl ?_); (refine step_append_grows (by rfl) (.tmp 43) (.tmp 45) 22 (by rfl) 3 i0 (.int .i64 0) 1 8 Try.underlying22 hI0.out hZ0.out hZ1.out hZ2.out (by rfl) (by decide) (some ad) l.length l.length (nums .i64 l) (by rfl) (fun h => by cases h) (by rw [nums_length, Nat.mul_one]) (C_cells (Kd.C_below HCl.out (by repeat (first | exact Below.refl _ _ | apply below_alloc | apply pw_below_drewN | apply below_drew)))) ⟨_, 0, none⟩ 1 1 [.int .i64 s] (by rfl) (by rfl) (news_one (by first | exact cell_new _ _ _ | (simp [World.cell?]; done))) (by intro u hu; have hu2 := List.mem_singleton.1 hu; subst hu2; rfl) (by omega) (by unfold maxLen; have := HLS.out; omega) (by have := HLS.out; omega) ?_); intro v9 w9 hown9 hgrow9; obtain ⟨A9, c9, rfl, hc9, hC9⟩ := appended hown9; rw [hls1] at hC9 hc9; have HC9 := Aside0.mk hC9; have Hc9 := Aside0.mk hc9; have HB9 := Aside0.mk (show Below wr.heap.size wr w9 from pw_below_grown (by repeat (first | exact Below.refl _ _ | apply below_alloc | apply pw_below_drewN | apply below_drew)) none (by simp; try omega) hgrow9 (fun k hk => by cases hk)); have hS9 := pw_cell_below HB9.out HBO.out; clear hown9 hgrow9 hc9 hC9) | (go_at_fn 62; (refine (hih A9 c9 w9 HB9.out HC9.out Hc9.out).mono ?_); rintro e w10 ⟨rfl, hJ10, hk10, hb10⟩; have hS10 := cell_kept hk10 hS9 HOw.out.no; have HJ10 := Aside0.mk hJ10; have HK10 := Aside0.mk hk10; have HB10 := Aside0.mk hb10; clear hJ10 hk10 hb10; dsimp only))
          all_goals
            go_wp2
            go_roundw
            case rel =>
              have hle : B ≤ wr.heap.size := by
                obtain ⟨_, _, _, hx⟩ := V.box _ _ HJi.out
                have := (Array.getElem?_eq_some_iff.1 hx).1
                have := V.le
                omega
              obtain ⟨_, _, _, hbox9⟩ := V.box _ _ (V.keep _ _ _ HJi.out HB9.out)
              exact ⟨i + 1, by rw [w64 (x := (i : Int) + 1) (by omega) (by have := HGL.out; have := Hi.out; omega)]; rfl, ⟨by have := Hi.out; omega⟩, ⟨⟨sti2, HF2.out, HJ10.out⟩⟩, ⟨(HK.out.below HB9.out).then_ HK10.out (fun k hk => .inl hk)⟩, ⟨(below_then HB.out hle HB9.out).trans HB10.out⟩, ⟨C_kept hbox9 HK10.out (Kd.C_below HCg.out HB9.out)⟩⟩
            case measure => rw [w64 (x := (i : Int) + 1) (by omega) (by have := HGL.out; have := Hi.out; omega)]; have := Hi.out; simp [intOf]; omega
        · rw [if_neg cu] at hf
          have cub : decide (bl - 1 ≤ used) = false := decide_eq_false cu
          have hJi2 := Aside0.mk (show ∃ sti, (gr.drop (i + 1)).foldlM (fun st s => if tubeOf l s ≤ used then srch step n k st (l ++ [s]) (max used (tubeOf l s + 1)) else some st) sti = some st' ∧ ∀ q, J sti (wr.drewN q) from ⟨sti, hf, fun q => V.keep _ _ _ hJi (pw_below_drewN (Below.refl _ _) q)⟩)
          clear hf cu HS hi hrd hsx hss hll hbl hble hT hbound ct hJi
          go_wp2_with (go_at_call 59; (with_reducible refine (bits_Len.calls _ bl _ HBL.out).mono ?_); rintro e w' ⟨rfl, ⟨nd, rfl⟩⟩)
          go_roundw
          case rel => exact ⟨i + 1, by rw [w64 (x := (i : Int) + 1) (by omega) (by have := HGL.out; have := Hi.out; omega)]; rfl, ⟨by have := Hi.out; omega⟩, ⟨by obtain ⟨s1, h1, h2⟩ := hJi2.out; exact ⟨s1, h1, h2 _⟩⟩, ⟨HK.out.drewN _⟩, ⟨pw_below_drewN HB.out _⟩, ⟨Kd.C_drewN HCg.out _⟩⟩
          case measure => rw [w64 (x := (i : Int) + 1) (by omega) (by have := HGL.out; have := Hi.out; omega)]; have := Hi.out; simp [intOf]; omega
      · have c1b : decide ((i : Int) < (gr.length : Int)) = false := decide_eq_false ct
        have c1c : decide (i < gr.length) = false := decide_eq_false (by omega)
        have hJf : J st' wr := by
          obtain ⟨sti, hf, hJi⟩ := HS.out
          rw [List.drop_of_length_le (by omega)] at hf
          have : sti = st' := by simpa using hf
          rw [← this]; exact hJi
        have HJf := Aside0.mk hJf
        clear ct HS hJf
        go_wp2
        go_end0
        exact ⟨rfl, HJf.out, HK.out, HB.out⟩
end
end Go.Proofs.Ytnakkdaeehglnaa.P

set_option linter.unusedSimpArgs false
set_option linter.unusedVariables false
namespace Go.Proofs.Ytnakkdaeehglnaa.P
open Go.Lib Go.RowKit Go.Proofs.YtnakkdaeehglnaaW.PrintWords Go.Proofs.YtnakkdaeehglnaaW.PrintLast Go.Proofs.YtnakkdaeehglnaaW.PrintMore Go.Proofs.Ytnakkdaeehglnaa.Kit
attribute [local go_sem] max2_int min2_int max_two min_two max_three min_three max_four min_four
section
variable {σ : Type} {step : σ → List Int → Option σ} {n : Nat} {J : σ → World → Prop} {B Bb g : Nat} {lb : Array Value}
set_option maxHeartbeats 4000000
set_option maxRecDepth 100000
theorem search_calls (V : Visits step J B Bb g lb) (hn : 1 ≤ n ∧ n ≤ 12) (k : Nat) (st st' : σ) (W : World) (h : srch step n k st [0] 0 = some st') (hJ : J st W) :
    Calls Try.prog 42 #[.int .i64 (n : Int), .func (.func g) #[] lb] W fun e w' => e = .returned (.tuple #[]) ∧ J st' w' ∧ Kept W w' (fun k => k = Bb) ∧ Below B W w' := by
  have eo : ∀ args w, (callFunc 62 args).run Try.prog w = .ok (.enter 62 args) w := enters_of Try.func62 (by kernel_rfl) rfl
  have B1 : ∀ (w : World) o, Below w.heap.size w (w.alloc o) := fun w o => below_alloc (Below.refl _ _) o
  have hsz : ∀ (w : World) o, (w.alloc o).heap.size = w.heap.size + 1 := fun w o => by simp
  obtain ⟨_, _, _, hbox⟩ := V.box st W hJ
  have hbb := (Array.getElem?_eq_some_iff.1 hbox).1
  have hcall : ∀ (o1 o2 o3 o4 : Value) (t1 t2 t3 t4 : TypeId), o1 = .int .i64 (n : Int) → o2 = .func (.func g) #[] lb → o3 = .func (.func 62) #[] #[.pointer (some ⟨W.heap.size + 1, 0, none⟩), .pointer (some ⟨W.heap.size, 0, none⟩), .pointer (some ⟨W.heap.size + 1 + 1, 0, none⟩)] → o4 = .int .i64 0 →
      Calls Try.prog 62 #[.slice (some ⟨W.heap.size + 1 + 1 + 1, 0, none⟩) 1 1, .int .i64 0, .pointer (some ⟨W.heap.size + 1, 0, none⟩), .pointer (some ⟨W.heap.size, 0, none⟩), .pointer (some ⟨W.heap.size + 1 + 1, 0, none⟩)]
        ((((W.alloc (Obj.cells #[o1] t1)).alloc (Obj.cells #[o2] t2)).alloc (Obj.cells #[o3] t3)).alloc (Obj.cells #[o4] t4)) fun e w' => e = .returned (.tuple #[]) ∧ J st' w' ∧ Kept W w' (fun k => k = Bb) ∧ Below B W w' := by
    intro o1 o2 o3 o4 t1 t2 t3 t4 h1 h2 h3 h4
    subst h1 h2 h3 h4
    have k1 := cell_new W (.int .i64 (n : Int)) t1
    have hA := B1 W (Obj.cells #[.int .i64 (n : Int)] t1)
    have z1 := hsz W (Obj.cells #[.int .i64 (n : Int)] t1)
    generalize W.alloc (Obj.cells #[.int .i64 (n : Int)] t1) = W1 at *
    have k2 := cell_new W1 (.func (.func g) #[] lb) t2
    have hA2 := B1 W1 (Obj.cells #[.func (.func g) #[] lb] t2)
    have z2 := hsz W1 (Obj.cells #[.func (.func g) #[] lb] t2)
    generalize W1.alloc (Obj.cells #[.func (.func g) #[] lb] t2) = W2 at *
    have k3 := cell_new W2 (.func (.func 62) #[] #[.pointer (some ⟨W.heap.size + 1, 0, none⟩), .pointer (some ⟨W.heap.size, 0, none⟩), .pointer (some ⟨W.heap.size + 1 + 1, 0, none⟩)]) t3
    have hA3 := B1 W2 (Obj.cells #[.func (.func 62) #[] #[.pointer (some ⟨W.heap.size + 1, 0, none⟩), .pointer (some ⟨W.heap.size, 0, none⟩), .pointer (some ⟨W.heap.size + 1 + 1, 0, none⟩)]] t3)
    have z3 := hsz W2 (Obj.cells #[.func (.func 62) #[] #[.pointer (some ⟨W.heap.size + 1, 0, none⟩), .pointer (some ⟨W.heap.size, 0, none⟩), .pointer (some ⟨W.heap.size + 1 + 1, 0, none⟩)]] t3)
    generalize W2.alloc (Obj.cells #[.func (.func 62) #[] #[.pointer (some ⟨W.heap.size + 1, 0, none⟩), .pointer (some ⟨W.heap.size, 0, none⟩), .pointer (some ⟨W.heap.size + 1 + 1, 0, none⟩)]] t3) = W3 at *
    have k4 := cell_new W3 (.int .i64 0) t4
    have hA4 := B1 W3 (Obj.cells #[.int .i64 0] t4)
    generalize W3.alloc (Obj.cells #[.int .i64 0] t4) = W4 at *
    have k1' := pw_cell_below hA4 (pw_cell_below hA3 (pw_cell_below hA2 k1))
    have k2' := pw_cell_below hA4 (pw_cell_below hA3 k2)
    have k3' := pw_cell_below hA4 k3
    rw [z1] at k2'
    rw [z2, z1] at k3'
    rw [z3, z2, z1] at k4
    have hB4 : Below W.heap.size W W4 := ((hA.trans (hA2.mono (by omega))).trans (hA3.mono (by omega))).trans (hA4.mono (by omega))
    have hO : OnAt n B Bb g lb (W.heap.size + 1) W.heap.size (W.heap.size + 1 + 1) W4 := ⟨k2', k1', k3', by omega, by omega, by omega⟩
    have hC : Kd.C (Kd.int .i64) W4 (some ⟨W.heap.size + 1 + 1 + 1, 0, none⟩) ([0] : List Int).length [0] := by
      refine ⟨rfl, by decide, fun _ => ⟨_, rfl, fun j p hj => ?_⟩⟩
      cases j with
      | zero =>
        simp at hj
        subst hj
        refine ⟨[.int .i64 0], rfl, rfl, fun i u hu => ?_⟩
        cases i with
        | zero => simp at hu; subst hu; exact k4
        | succ i => simp at hu
      | succ j => simp at hj
    refine (on_calls V hn _ _ _ k st st' [0] 0 _ 1 W4 h (V.keep _ _ _ hJ hB4) hO hC (by simp)).mono ?_
    rintro e w' ⟨he, h1, h2, h3⟩
    refine ⟨he, h1, ?_, ?_⟩
    · exact (Kept.of_below hB4 _).then_ h2 (fun k hk => .inl hk)
    · exact (hB4.mono (by have := V.le; omega)).trans h3
  have HCa := Aside0.mk hcall
  clear hcall hJ h hbox hbb B1 hsz
  go_enter Try.func42, Try.ntmps42
  go_wp2_with (first | (go_at_fn 62; (refine (HCa.out _ _ _ _ _ _ _ _ rfl rfl rfl rfl).mono ?_); rintro e w1 ⟨rfl, hJ1, hk1, hb1⟩; have HJ1 := Aside0.mk hJ1; have HK1 := Aside0.mk hk1; have HB1 := Aside0.mk hb1; clear hJ1 hk1 hb1; dsimp only))
  go_end0
  exact ⟨rfl, HJ1.out, HK1.out, HB1.out⟩
end
end Go.Proofs.Ytnakkdaeehglnaa.P

set_option linter.unusedSimpArgs false
set_option linter.unusedVariables false
namespace Go.Proofs.Ytnakkdaeehglnaa.P
open Go.Lib Go.RowKit Go.Proofs.YtnakkdaeehglnaaW.PrintWords Go.Proofs.YtnakkdaeehglnaaW.PrintLast Go.Proofs.YtnakkdaeehglnaaW.PrintMore Go.Proofs.Ytnakkdaeehglnaa.Kit
attribute [local go_sem] max2_int min2_int max_two min_two max_three min_three max_four min_four

/-- The box at Bb holds a slice that reads st. -/
def BoxAt (Bb : Nat) (st : List Int) (W : World) : Prop :=
  ∃ A c, W.heap[Bb]? = some (.cells #[.slice A st.length c] 22 (0, 0)) ∧ Kd.C (Kd.int .i64) W A st.length st ∧ st.length ≤ c
theorem BoxAt.keep {Bb : Nat} {st : List Int} {W W' : World} (h : BoxAt Bb st W) (hb : Below W.heap.size W W') : BoxAt Bb st W' := by
  obtain ⟨A, c, h1, h2, h3⟩ := h
  exact ⟨A, c, (hb.block Bb (Array.getElem?_eq_some_iff.1 h1).1).trans h1, Kd.C_below h2 hb, h3⟩
theorem BoxAt.cell {Bb : Nat} {st : List Int} {W : World} (h : BoxAt Bb st W) : ∃ A c, W.cell? ⟨Bb, 0, none⟩ = some (.slice A st.length c) ∧ W.frozen? ⟨Bb, 0, none⟩ = false := by
  obtain ⟨A, c, h1, h2, h3⟩ := h
  refine ⟨A, c, ?_, ?_⟩
  · unfold World.cell?; rw [h1]; rfl
  · unfold World.frozen?; rw [h1]; rfl
/-- A slice is put into the box. -/
theorem BoxAt.put {Bb : Nat} {st : List Int} {W : World} (h : BoxAt Bb st W) {A : Option Addr} {c : Nat} {l : List Int} (hC : Kd.C (Kd.int .i64) W A l.length l) (hc : l.length ≤ c) :
    BoxAt Bb l (W.setCell ⟨Bb, 0, none⟩ (.slice A l.length c)) ∧ Kept W (W.setCell ⟨Bb, 0, none⟩ (.slice A l.length c)) (fun k => k = Bb) := by
  obtain ⟨A0, c0, h1, h2, h3⟩ := h
  have hk : Kept W (W.setCell ⟨Bb, 0, none⟩ (.slice A l.length c)) (fun k => k = Bb) := Kept.setCell (S := fun k => k = Bb) (Kept.refl W _) (p := ⟨Bb, 0, none⟩) (.inl rfl) _
  refine ⟨⟨A, c, ?_, C_kept h1 hk hC, hc⟩, hk⟩
  simp only [World.setCell, Array.getElem?_modify, if_true, h1, Option.map_some]
  rfl
section
set_option maxHeartbeats 4000000
set_option maxRecDepth 100000
def longStep (best l : List Int) : Option (List Int) := some (if best.length < l.length then l else best)
theorem long_visits (B Bb : Nat) (hle : B ≤ Bb) : Visits longStep (BoxAt Bb) B Bb 43 #[.pointer (some ⟨Bb, 0, none⟩)] where
  eg := enters_of Try.func43 (by kernel_rfl) rfl
  le := hle
  box := fun st W h => by obtain ⟨A, c, h1, _⟩ := h; exact ⟨A, _, c, h1⟩
  keep := fun st W W' h hb => h.keep hb
  visit := by
    intro st st' l A c W hst hs h0 h5 hJ hC hc
    show Calls _ _ #[.slice A l.length c, .pointer (some ⟨Bb, 0, none⟩)] W _
    injection hst with hst
    obtain ⟨Ab, cb, hcell, hfr⟩ := hJ.cell
    by_cases hlt : st.length < l.length
    · rw [if_pos hlt] at hst
      subst hst
      obtain ⟨hput, hkept⟩ := hJ.put hC hc
      have HP := Aside0.mk hput
      have HK := Aside0.mk hkept
      have HB := Aside0.mk (show Below B W (W.setCell ⟨Bb, 0, none⟩ (.slice A l.length c)) from (Below.refl B W).setCell hle _)
      have b1 : decide ((st.length : Int) < (l.length : Int)) = true := decide_eq_true (by omega)
      have b2 : decide (st.length < l.length) = true := decide_eq_true hlt
      clear hput hkept hJ hC hc hs h0 h5 hlt hle
      go_enter Try.func43, Try.ntmps43
      go_wp2
      go_end0
      exact ⟨rfl, HP.out, HK.out, HB.out⟩
    · rw [if_neg hlt] at hst
      subst hst
      have HJ := Aside0.mk hJ
      have b1 : decide ((st.length : Int) < (l.length : Int)) = false := decide_eq_false (by omega)
      have b2 : decide (st.length < l.length) = false := decide_eq_false hlt
      clear hJ hC hc hs h0 h5 hlt hle
      go_enter Try.func43, Try.ntmps43
      go_wp2
      go_end0
      exact ⟨rfl, HJ.out, Kept.refl _ _, Below.refl _ _⟩
/-- slices.Clone of a row that is read. -/
theorem clone_calls (A : Option Addr) (c : Nat) (l : List Int) (w : World) (hr : Kd.C (Kd.int .i64) w A l.length l) (hl : 0 < l.length) (h5 : l.length < 5000) :
    Calls Try.prog 44 #[.slice A l.length c] w fun e w' => ∃ v0_, e = .returned v0_ ∧ Kd.R (Kd.int .i64) 3 w' w.heap.size (fun _ => True) v0_ l ∧ Below w.heap.size w w' := by
  obtain ⟨b, off, rfl, hc⟩ := C_plain hr hl
  refine (Try.slices_Clone_int b off l.length c l w (Nat.le_refl _) (by omega) (fun j hj => ?_)).mono ?_
  · rw [hc j hj]
    simp [List.getElem?_eq_getElem hj, getElem!_pos l j hj]
  · rintro e w' ⟨v, rfl, ho, _, hb⟩
    rw [List.take_length] at ho
    exact ⟨v, rfl, R_int_mk (fun _ _ => trivial) ho, hb⟩
/-- What Longest finds. -/
def longest (n : Nat) : Option (List Int) := srch longStep n 40 ([] : List Int) [0] 0
def flash_Longest.f (n : Int) : Option (List Int × Int) :=
  if 1 ≤ n ∧ n ≤ 5 then (longest n.toNat).bind fun l => if 0 < l.length ∧ l.length < 5000 then some (l, 0) else none else some ([], 2)
theorem flash_Longest.calls (a0 : Int) (r1 : List Int) (r2 : Int) (w : World) (h : flash_Longest.f a0 = some (r1, r2)) :
    Calls Try.prog 17 #[.int .i64 a0] w fun e w' => ∃ v0_ : Value, e = .returned (.tuple #[v0_, .int .i64 r2]) ∧ Kd.R (Kd.int .i64) 3 w' w.heap.size (fun _ => True) v0_ r1 ∧ Below w.heap.size w w' := by
  have HB := Aside0.mk (Below.refl w.heap.size w)
  unfold flash_Longest.f at h
  split at h
  case isFalse hn =>
    injection h with h
    injection h with h1 h2
    subst h1 h2
    by_cases hn2 : 1 ≤ a0 ∧ a0 ≤ 12
    · have S1 : flash_sized.f a0 = some true := by unfold flash_sized.f; rw [if_pos (by omega), decide_eq_true (by omega)]
      have S1' := Aside0.mk S1
      have b1 : decide (5 < a0) = true := decide_eq_true (by omega)
      clear S1 hn hn2
      go_enter Try.func17, Try.ntmps17
      go_wp2_with (go_at_call 41; (with_reducible refine (flash_sized.calls a0 true _ S1'.out).mono ?_); rintro e w' ⟨rfl, ⟨nd, rfl⟩⟩)
      go_ret2
      exact ⟨_, rfl, Kd.R_nil _ _ _ _ _, pw_below_drewN HB.out _⟩
    · have S1 : flash_sized.f a0 = some false := by
        unfold flash_sized.f
        by_cases h1 : a0 ≥ 1
        · rw [if_pos h1, decide_eq_false (by omega)]
        · rw [if_neg h1]
      have S1' := Aside0.mk S1
      clear S1 hn hn2
      go_enter Try.func17, Try.ntmps17
      go_wp2_with (go_at_call 41; (with_reducible refine (flash_sized.calls a0 false _ S1'.out).mono ?_); rintro e w' ⟨rfl, ⟨nd, rfl⟩⟩)
      go_ret2
      exact ⟨_, rfl, Kd.R_nil _ _ _ _ _, pw_below_drewN HB.out _⟩
  case isTrue hn =>
    obtain ⟨l, hl, h⟩ := Option.bind_eq_some_iff.1 h
    split at h
    case isFalse => cases h
    rename_i hll
    injection h with h
    injection h with h1 h2
    subst h1 h2
    obtain ⟨n, rfl⟩ : ∃ n : Nat, a0 = n := ⟨a0.toNat, by omega⟩
    rw [Int.toNat_natCast] at hl
    have S1 : flash_sized.f n = some true := by unfold flash_sized.f; rw [if_pos (by omega), decide_eq_true (by omega)]
    have S1' := Aside0.mk S1
    have b1 : decide (5 < (n : Int)) = false := decide_eq_false (by omega)
    have HN := Aside0.mk (show 1 ≤ n ∧ n ≤ 12 by omega)
    have HL := Aside0.mk hl
    have HLL := Aside0.mk hll
    clear S1 hn hl hll
    have hsrch : ∀ nd, Calls Try.prog 42 #[.int .i64 (n : Int), .func (.func 43) #[] #[.pointer (some ⟨w.heap.size, 0, none⟩)]] ((w.drewN nd).alloc (Obj.cells #[Value.slice none 0 0] 22)) fun e w' => e = .returned (.tuple #[]) ∧ BoxAt w.heap.size l w' ∧ Below w.heap.size w w' := by
      intro nd
      have hbl : Below w.heap.size w ((w.drewN nd).alloc (Obj.cells #[Value.slice none 0 0] 22)) := below_alloc (pw_below_drewN HB.out nd) _
      refine (search_calls (long_visits w.heap.size w.heap.size (Nat.le_refl _)) HN.out 40 ([] : List Int) l _ HL.out ⟨none, 0, heap_alloc_new (w.drewN nd) _, ⟨rfl, by decide, fun h => absurd h (by decide)⟩, Nat.le_refl _⟩).mono ?_
      rintro e w' ⟨he, h1, h2, h3⟩
      exact ⟨he, h1, hbl.trans h3⟩
    have HSr := Aside0.mk hsrch
    clear hsrch
    go_enter Try.func17, Try.ntmps17
    go_wp2_with (first | (go_at_call 41; (with_reducible refine (flash_sized.calls n true _ S1'.out).mono ?_); rintro e w' ⟨rfl, ⟨nd, rfl⟩⟩) | (go_at_call 42; (refine (HSr.out _).mono ?_); rintro e w1 ⟨rfl, hJ, hb⟩; obtain ⟨A, c, hcell, hC, hcc⟩ := hJ; have hcell0 : w1.cell? ⟨w.heap.size, 0, none⟩ = some (.slice A l.length c) := (by unfold World.cell?; rw [hcell]; rfl); have HC := Aside0.mk hC; have HB1 := Aside0.mk hb; clear hcell hC hcc hb; dsimp only) | (go_at_call 44; (refine (clone_calls _ _ l _ HC.out HLL.out.1 HLL.out.2).mono ?_); rintro e w2 ⟨v, rfl, ho, hb2⟩; have HO := Aside0.mk ho; have HB2 := Aside0.mk hb2; clear ho hb2))
    go_ret2
    exact ⟨_, rfl, Kd.R_lower HO.out HB1.out.size, below_then HB1.out HB1.out.size HB2.out⟩
end
end Go.Proofs.Ytnakkdaeehglnaa.P

namespace Go.Proofs.Ytnakkdaeehglnaa.P
open Go.RowKit Go.Proofs.YtnakkdaeehglnaaW.PrintWords Go.Proofs.YtnakkdaeehglnaaW.PrintLast Go.Proofs.YtnakkdaeehglnaaW.PrintMore
attribute [local go_sem] max2_int min2_int max_two min_two max_three min_three max_four min_four   -- for this text's walks alone
set_option linter.unusedVariables false
set_option linter.unusedSimpArgs false

/-! ### flash_closed: function 47 -/
def flash_closed.f (l0 : List Int) : Option (Bool) := if (l0.length : Int) ≥ 4 then (if 0 < (l0.length : Int) then (if 0 ≤ (wrap64 ((l0.length : Int) - 1)) then (if (wrap64 ((l0.length : Int) - 1)) < (l0.length : Int) then ((flash_next.f (rd l0 0) (rd l0 (wrap64 ((l0.length : Int) - 1)))).bind fun t166 => (some t166)) else (none)) else (none)) else (none)) else (some false)
set_option maxHeartbeats 8000000 in
set_option maxRecDepth 100000 in
theorem flash_closed.calls (A0 : Option Addr) (c0 : Nat) (l0 : List Int) (r : Bool) (w : World) (hr0 : Kd.C (Kd.int .i64) w A0 l0.length l0) (hc0 : l0.length ≤ c0) (h : flash_closed.f l0 = some r) :
    Calls Try.prog 47 #[.slice A0 l0.length c0] w fun e w' => e = .returned (.bool r) ∧ Drawn0 w w' := by
  have HR0 := Aside0.mk hr0
  have HC0 := Aside0.mk hc0
  clear hr0 hc0
  have H : (if (l0.length : Int) ≥ 4 then (if 0 < (l0.length : Int) then (if 0 ≤ (wrap64 ((l0.length : Int) - 1)) then (if (wrap64 ((l0.length : Int) - 1)) < (l0.length : Int) then ((flash_next.f (rd l0 0) (rd l0 (wrap64 ((l0.length : Int) - 1)))).bind fun t166 => (some t166)) else (none)) else (none)) else (none)) else (some false)) = some r := h
  clear h
  by_cases c2 : (l0.length : Int) ≥ 4
  · rw [if_pos c2] at H
    have c2b0 : decide (4 ≤ (l0.length : Int)) = true := decide_eq_true c2
    have c2b1 : decide (4 ≤ l0.length) = true := decide_eq_true (by omega)
    clear c2
    by_cases c3 : 0 < (l0.length : Int)
    · rw [if_pos c3] at H
      have c3b0 : decide (0 < (l0.length : Int)) = true := decide_eq_true c3
      have c3b1 : decide (0 < l0.length) = true := decide_eq_true (by omega)
      clear c3
      obtain ⟨ji4, hji4⟩ : ∃ j_ : Int, (wrap64 ((l0.length : Int) - 1)) = j_ := ⟨_, rfl⟩
      replace H : (if 0 ≤ (ji4) then (if (ji4) < (l0.length : Int) then ((flash_next.f (rd l0 0) (rd l0 (ji4))).bind fun t166 => (some t166)) else (none)) else (none)) = some r := by first | (rw [hji4] at H; exact H) | (simp only [hji4] at H ⊢; exact H)
      have hji4w : (IntKind.i64.wrap ((l0.length : Int) - 1)) = ji4 := (i64_w _).trans hji4
      by_cases c5 : 0 ≤ (ji4)
      · rw [if_pos c5] at H
        have c5b0 : decide (0 ≤ (ji4)) = true := decide_eq_true c5
        clear c5
        by_cases c6 : (ji4) < (l0.length : Int)
        · rw [if_pos c6] at H
          have c6b0 : decide ((ji4) < (l0.length : Int)) = true := decide_eq_true c6
          clear c6
          replace H := Option.bind_eq_some_iff.mp H
          obtain ⟨t166, A70, H⟩ := H
          replace H : (some t166) = some r := H
          have A7 := Aside0.mk A70
          clear A70
          obtain rfl := Option.some.inj H
          have p164 : 0 ≤ (0 : Int) := (by omega)
          have q164 : 0 < (l0.length : Int) := of_decide_eq_true (by first | (with_reducible assumption) | assumption)
          obtain ⟨ad164, e164, hx164_0⟩ := Kd.at_int HR0.out 0 p164 q164
          cases e164
          have qi164 : (0 < l0.length) = True := eq_true (by omega)
          (try rw [show ((0 : Int)).toNat = 0 from rfl] at hx164_0)
          (try rw [Addr.add_zero'] at hx164_0)
          replace p164 := eq_true p164
          replace q164 := eq_true q164
          have p165 : 0 ≤ ((ji4) : Int) := of_decide_eq_true (by first | (with_reducible assumption) | assumption)
          have q165 : (ji4) < (l0.length : Int) := of_decide_eq_true (by first | (with_reducible assumption) | assumption)
          obtain ⟨ad165, e165, hx165_0⟩ := Kd.at_int HR0.out (ji4) p165 q165
          obtain rfl : ad164 = ad165 := (by injection e165)
          replace p165 := eq_true p165
          replace q165 := eq_true q165
          go_enter Try.func47, Try.ntmps47
          go_wp2_with (first | (go_at_call 63; (with_reducible refine (flash_next.calls (rd l0 0) (rd l0 (ji4)) t166 _ A7.out).mono ?_); rintro e w' ⟨rfl, ⟨nd, rfl⟩⟩; (try first | exact ⟨rfl, _, World.drewN_drewN _ _ _⟩ | exact ⟨rfl, _, Eq.trans (World.drewN_drewN _ _ _) (congrArg (World.drewN _) (Nat.add_assoc _ _ _))⟩)))
          repeat (go_quiet (first | (go_at_call 63; (with_reducible refine (flash_next.calls (rd l0 0) (rd l0 (ji4)) t166 _ A7.out).mono ?_); rintro e w' ⟨rfl, ⟨nd, rfl⟩⟩; (try first | exact ⟨rfl, _, World.drewN_drewN _ _ _⟩ | exact ⟨rfl, _, Eq.trans (World.drewN_drewN _ _ _) (congrArg (World.drewN _) (Nat.add_assoc _ _ _))⟩))); try go_wp2_with (first | (go_at_call 63; (with_reducible refine (flash_next.calls (rd l0 0) (rd l0 (ji4)) t166 _ A7.out).mono ?_); rintro e w' ⟨rfl, ⟨nd, rfl⟩⟩; (try first | exact ⟨rfl, _, World.drewN_drewN _ _ _⟩ | exact ⟨rfl, _, Eq.trans (World.drewN_drewN _ _ _) (congrArg (World.drewN _) (Nat.add_assoc _ _ _))⟩))))
          go_ret
          exact ⟨by first | rfl | (simp; done) | (simp only [← hji4] <;> (first | rfl | simp)) | (simp [*]; done), by repeat (first | exact Drawn0.refl _ | apply Drawn0.step)⟩
        · rw [if_neg c6] at H
          exact absurd H (by simp)
      · rw [if_neg c5] at H
        exact absurd H (by simp)
    · rw [if_neg c3] at H
      exact absurd H (by simp)
  · rw [if_neg c2] at H
    have c2b0 : decide (4 ≤ (l0.length : Int)) = false := decide_eq_false c2
    have c2b1 : decide (4 ≤ l0.length) = false := decide_eq_false (by omega)
    clear c2
    obtain rfl := Option.some.inj H
    go_enter Try.func47, Try.ntmps47
    go_wp2
    repeat (go_quiet (fail); try go_wp2)
    go_ret
    exact ⟨by first | rfl | (simp; done) | (simp [*]; done), by repeat (first | exact Drawn0.refl _ | apply Drawn0.step)⟩

end Go.Proofs.Ytnakkdaeehglnaa.P

namespace Go.Proofs.Ytnakkdaeehglnaa.P
open Go.RowKit Go.Proofs.YtnakkdaeehglnaaW.PrintWords Go.Proofs.YtnakkdaeehglnaaW.PrintLast Go.Proofs.YtnakkdaeehglnaaW.PrintMore
attribute [local go_sem] max2_int min2_int max_two min_two max_three min_three max_four min_four   -- for this text's walks alone
set_option linter.unusedVariables false
set_option linter.unusedSimpArgs false

/-! ### flash_snake: function 48 -/
mutual
def flash_snake.l0 : Nat → List Int → Bool → List Int → Int → Int → Option (Bool)
  | 0, _, _, _, _, _ => none
  | k + 1, x0, x1, x8, x9, x10 => if x10 < x9 then (if 0 ≤ x10 then (if x10 < (x8.length : Int) then (flash_snake.l1 k x0 x1 x10 (rd x8 x10) (wrap64 (x10 + 2)) x8 x9 x10) else (none)) else (none)) else (some true)
def flash_snake.l1 : Nat → List Int → Bool → Int → Int → Int → List Int → Int → Int → Option (Bool)
  | 0, _, _, _, _, _, _, _, _ => none
  | k + 1, x0, x1, x5, x6, x7, x8, x9, x10 => if x7 < (x0.length : Int) then (if 0 ≤ x7 then ((flash_next.f x6 (rd x0 x7)).bind fun t169 => (if t169 = true then (if x1 = true then (if x5 = 0 then (if (x7 = (wrap64 ((x0.length : Int) - 1))) then (flash_snake.l1 k x0 x1 x5 x6 (wrap64 (x7 + 1)) x8 x9 x10) else (some false)) else (some false)) else (some false)) else (flash_snake.l1 k x0 x1 x5 x6 (wrap64 (x7 + 1)) x8 x9 x10))) else (none)) else (flash_snake.l0 k x0 x1 x8 x9 (wrap64 (x10 + 1)))
end
def flash_snake.f (k : Nat) (l0 : List Int) (a1 : Bool) : Option (Bool) := flash_snake.l0 k l0 a1 l0 (l0.length : Int) 0
theorem flash_snake.mono_l : ∀ k, (∀ y0 y1 y2 y3 y4, LeO (flash_snake.l0 k y0 y1 y2 y3 y4) (flash_snake.l0 (k + 1) y0 y1 y2 y3 y4)) ∧ (∀ y0 y1 y2 y3 y4 y5 y6 y7, LeO (flash_snake.l1 k y0 y1 y2 y3 y4 y5 y6 y7) (flash_snake.l1 (k + 1) y0 y1 y2 y3 y4 y5 y6 y7))
  | 0 => ⟨fun _ _ _ _ _ r h => by simp [flash_snake.l0] at h, fun _ _ _ _ _ _ _ _ r h => by simp [flash_snake.l1] at h⟩
  | k + 1 => by
    obtain ⟨ih0, ih1⟩ := flash_snake.mono_l k
    refine ⟨?_, ?_⟩
    · intro y0 y1 y2 y3 y4
      unfold flash_snake.l0
      repeat' first
      | (with_reducible exact ih0 _ _ _ _ _)
      | (with_reducible exact ih1 _ _ _ _ _ _ _ _)
      | (with_reducible exact LeO.refl _)
      | (with_reducible exact LeO.none _)
      | (with_reducible refine LeO.ite ?_ ?_)
      | (with_reducible refine LeO.bind ?_ (fun _ => ?_))
      | exact ih0 _ _ _ _ _
      | exact ih1 _ _ _ _ _ _ _ _
      | exact LeO.none _
      | refine LeO.ite ?_ ?_
      | refine LeO.bind ?_ (fun _ => ?_)
    · intro y0 y1 y2 y3 y4 y5 y6 y7
      unfold flash_snake.l1
      repeat' first
      | (with_reducible exact ih0 _ _ _ _ _)
      | (with_reducible exact ih1 _ _ _ _ _ _ _ _)
      | (with_reducible exact LeO.refl _)
      | (with_reducible exact LeO.none _)
      | (with_reducible refine LeO.ite ?_ ?_)
      | (with_reducible refine LeO.bind ?_ (fun _ => ?_))
      | exact ih0 _ _ _ _ _
      | exact ih1 _ _ _ _ _ _ _ _
      | exact LeO.none _
      | refine LeO.ite ?_ ?_
      | refine LeO.bind ?_ (fun _ => ?_)
theorem flash_snake.mono : ∀ a0 a1 k, LeO (flash_snake.f k a0 a1) (flash_snake.f (k + 1) a0 a1) := by
  intro a0 a1 k
  obtain ⟨ih0, ih1⟩ := flash_snake.mono_l k
  unfold flash_snake.f
  repeat' first
      | (with_reducible exact ih0 _ _ _ _ _)
      | (with_reducible exact ih1 _ _ _ _ _ _ _ _)
      | (with_reducible exact LeO.refl _)
      | (with_reducible exact LeO.none _)
      | (with_reducible refine LeO.ite ?_ ?_)
      | (with_reducible refine LeO.bind ?_ (fun _ => ?_))
      | exact ih0 _ _ _ _ _
      | exact ih1 _ _ _ _ _ _ _ _
      | exact LeO.none _
      | refine LeO.ite ?_ ?_
      | refine LeO.bind ?_ (fun _ => ?_)
set_option maxHeartbeats 8000000 in
set_option maxRecDepth 100000 in
theorem flash_snake.calls (k : Nat) (A0 : Option Addr) (c0 : Nat) (l0 : List Int) (a1 : Bool) (r : Bool) (w : World) (hr0 : Kd.C (Kd.int .i64) w A0 l0.length l0) (hc0 : l0.length ≤ c0) (h : flash_snake.f k l0 a1 = some r) :
    Calls Try.prog 48 #[.slice A0 l0.length c0, .bool a1] w fun e w' => e = .returned (.bool r) ∧ Drawn0 w w' := by
  have HR0 := Aside0.mk hr0
  have HC0 := Aside0.mk hc0
  clear hr0 hc0
  have H : (flash_snake.l0 k l0 a1 l0 (l0.length : Int) 0) = some r := h
  clear h
  have H' := Aside0.mk H
  clear H
  go_enter Try.func48, Try.ntmps48
  go_wp2
  go_loopg [10] k (fun kq v10 w' => ∃ (x10_1 : Int), v10 = .int .i64 x10_1 ∧ Aside0 (flash_snake.l0 kq l0 a1 l0 (l0.length : Int) x10_1 = some r) ∧ Aside0 (kq ≤ k) ∧ Drawn0 w w')
  case atStart => exact ⟨(0), (by first | rfl | (simp; done) | (simp [*]; done)), H', ⟨Nat.le_refl _⟩, by repeat (first | exact Drawn0.refl _ | apply Drawn0.step)⟩
  case round =>
    clear H'
    try clear p2
    obtain ⟨x10_1, rfl, HA, HK1, ⟨m1, rfl⟩⟩ := hrel
    cases gk with
    | zero => exact absurd HA.out (by simp [flash_snake.l0])
    | succ k1 =>
      have H := HA.out
      clear HA
      simp only [flash_snake.l0] at H
      by_cases c3 : x10_1 < (l0.length : Int)
      · rw [if_pos c3] at H
        have c3b0 : decide (x10_1 < (l0.length : Int)) = true := decide_eq_true c3
        clear c3
        by_cases c4 : 0 ≤ x10_1
        · rw [if_pos c4] at H
          have c4b0 : decide (0 ≤ x10_1) = true := decide_eq_true c4
          clear c4
          by_cases c5 : x10_1 < (l0.length : Int)
          · rw [if_pos c5] at H
            have c5b0 : decide (x10_1 < (l0.length : Int)) = true := decide_eq_true c5
            clear c5
            have H' := Aside0.mk H
            clear H
            have p167 : 0 ≤ (x10_1 : Int) := of_decide_eq_true (by first | (with_reducible assumption) | assumption)
            have q167 : x10_1 < (l0.length : Int) := of_decide_eq_true (by first | (with_reducible assumption) | assumption)
            obtain ⟨ad167, e167, hx167_0⟩ := Kd.at_int HR0.out x10_1 p167 q167
            cases e167
            replace p167 := eq_true p167
            replace q167 := eq_true q167
            go_wp2
            go_loopg [7] k1 (fun kq v7 w' => ∃ (x7_2 : Int), v7 = .int .i64 x7_2 ∧ Aside0 (flash_snake.l1 kq l0 a1 x10_1 (rd l0 x10_1) x7_2 l0 (l0.length : Int) x10_1 = some r) ∧ Aside0 (kq ≤ k1) ∧ Drawn0 w w')
            case atStart => exact ⟨(wrap64 (x10_1 + 2)), (by first | rfl | (simp; done) | (simp [*]; done)), H', ⟨Nat.le_refl _⟩, by repeat (first | exact Drawn0.refl _ | apply Drawn0.step)⟩
            case round =>
              clear H'
              try clear p1
              try clear q1
              try clear hx1
              try clear p2
              try clear c3
              try clear c3b0
              try clear c4
              try clear c4b0
              try clear c5
              try clear c5b0
              try clear hx167_0
              try clear p167
              try clear p2
              try clear q167
              obtain ⟨x7_2, rfl, HA, HK2, ⟨m2, rfl⟩⟩ := hrel
              cases gk with
              | zero => exact absurd HA.out (by simp [flash_snake.l1])
              | succ k2 =>
                have H := HA.out
                clear HA
                simp only [flash_snake.l1] at H
                by_cases c6 : x7_2 < (l0.length : Int)
                · rw [if_pos c6] at H
                  have c6b0 : decide (x7_2 < (l0.length : Int)) = true := decide_eq_true c6
                  clear c6
                  by_cases c7 : 0 ≤ x7_2
                  · rw [if_pos c7] at H
                    have c7b0 : decide (0 ≤ x7_2) = true := decide_eq_true c7
                    clear c7
                    replace H := Option.bind_eq_some_iff.mp H
                    obtain ⟨t169, A80, H⟩ := H
                    replace H : (if t169 = true then (if a1 = true then (if x10_1 = 0 then (if (x7_2 = (wrap64 ((l0.length : Int) - 1))) then (flash_snake.l1 k2 l0 a1 x10_1 (rd l0 x10_1) (wrap64 (x7_2 + 1)) l0 (l0.length : Int) x10_1) else (some false)) else (some false)) else (some false)) else (flash_snake.l1 k2 l0 a1 x10_1 (rd l0 x10_1) (wrap64 (x7_2 + 1)) l0 (l0.length : Int) x10_1)) = some r := H
                    have A8 := Aside0.mk A80
                    clear A80
                    by_cases c9 : t169 = true
                    · subst c9
                      have H1 : (if a1 = true then (if x10_1 = 0 then (if (x7_2 = (wrap64 ((l0.length : Int) - 1))) then (flash_snake.l1 k2 l0 a1 x10_1 (rd l0 x10_1) (wrap64 (x7_2 + 1)) l0 (l0.length : Int) x10_1) else (some false)) else (some false)) else (some false)) = some r := by rw [if_pos rfl] at H; exact H
                      clear H
                      have H := H1
                      clear H1
                      by_cases c10 : a1 = true
                      · subst c10
                        have H1 : (if x10_1 = 0 then (if (x7_2 = (wrap64 ((l0.length : Int) - 1))) then (flash_snake.l1 k2 l0 true x10_1 (rd l0 x10_1) (wrap64 (x7_2 + 1)) l0 (l0.length : Int) x10_1) else (some false)) else (some false)) = some r := by rw [if_pos rfl] at H; exact H
                        clear H
                        have H := H1
                        clear H1
                        by_cases c11 : x10_1 = 0
                        · rw [if_pos c11] at H
                          have c11b0 : (x10_1 == 0) = true := beq_iff_eq.mpr c11
                          have c11b1 : (x10_1 != 0) = false := bne_eq_false_iff_eq.mpr c11
                          clear c11
                          by_cases c12 : (x7_2 = (wrap64 ((l0.length : Int) - 1)))
                          · rw [if_pos c12] at H
                            have c12b0 : (x7_2 == (wrap64 ((l0.length : Int) - 1))) = true := beq_iff_eq.mpr c12
                            have c12b1 : (x7_2 != (wrap64 ((l0.length : Int) - 1))) = false := bne_eq_false_iff_eq.mpr c12
                            clear c12
                            have H' := Aside0.mk H
                            clear H
                            have p168 : 0 ≤ (x7_2 : Int) := of_decide_eq_true (by first | (with_reducible assumption) | assumption)
                            have q168 : x7_2 < (l0.length : Int) := of_decide_eq_true (by first | (with_reducible assumption) | assumption)
                            obtain ⟨ad168, e168, hx168_0⟩ := Kd.at_int HR0.out x7_2 p168 q168
                            obtain rfl : ad167 = ad168 := (by injection e168)
                            replace p168 := eq_true p168
                            replace q168 := eq_true q168
                            go_wp2_with (first | ((with_reducible refine gate_callee (f := 63) rfl ?_); refine goesL_ (some 28) rfl rfl Try.func63 (by kernel_rfl) rfl #[.int .i64 (rd l0 x10_1), .int .i64 (rd l0 x7_2)] rfl (by (try simp only [List.map_toArray, List.map_cons, List.map_nil]); first | done | rfl | (simp only [List.length_drop, List.length_take]; rfl)) ?_; (with_reducible refine (flash_next.calls (rd l0 x10_1) (rd l0 x7_2) true _ A8.out).mono ?_); rintro e w' ⟨rfl, ⟨nd, rfl⟩⟩; refine ⟨_, rfl, ?_⟩))
                            go_roundg k2
                            case measure => have := HK1.out; have := HK2.out; omega
                            case rel => exact ⟨(wrap64 (x7_2 + 1)), (by first | rfl | (simp; done) | (simp [*]; done)), H', ⟨by have := HK1.out; have := HK2.out; omega⟩, by repeat (first | exact Drawn0.refl _ | apply Drawn0.step)⟩
                          · rw [if_neg c12] at H
                            have c12b0 : (x7_2 == (wrap64 ((l0.length : Int) - 1))) = false := beq_eq_false_iff_ne.mpr c12
                            have c12b1 : (x7_2 != (wrap64 ((l0.length : Int) - 1))) = true := bne_iff_ne.mpr c12
                            obtain rfl := Option.some.inj H
                            have p168 : 0 ≤ (x7_2 : Int) := of_decide_eq_true (by first | (with_reducible assumption) | assumption)
                            have q168 : x7_2 < (l0.length : Int) := of_decide_eq_true (by first | (with_reducible assumption) | assumption)
                            obtain ⟨ad168, e168, hx168_0⟩ := Kd.at_int HR0.out x7_2 p168 q168
                            obtain rfl : ad167 = ad168 := (by injection e168)
                            replace p168 := eq_true p168
                            replace q168 := eq_true q168
                            go_wp2_with (first | ((with_reducible refine gate_callee (f := 63) rfl ?_); refine goesL_ (some 28) rfl rfl Try.func63 (by kernel_rfl) rfl #[.int .i64 (rd l0 x10_1), .int .i64 (rd l0 x7_2)] rfl (by (try simp only [List.map_toArray, List.map_cons, List.map_nil]); first | done | rfl | (simp only [List.length_drop, List.length_take]; rfl)) ?_; (with_reducible refine (flash_next.calls (rd l0 x10_1) (rd l0 x7_2) true _ A8.out).mono ?_); rintro e w' ⟨rfl, ⟨nd, rfl⟩⟩; refine ⟨_, rfl, ?_⟩))
                            go_ret
                            exact ⟨by first | rfl | (simp; done) | (simp [*]; done), by repeat (first | exact Drawn0.refl _ | apply Drawn0.step)⟩
                        · rw [if_neg c11] at H
                          have c11b0 : (x10_1 == 0) = false := beq_eq_false_iff_ne.mpr c11
                          have c11b1 : (x10_1 != 0) = true := bne_iff_ne.mpr c11
                          obtain rfl := Option.some.inj H
                          have p168 : 0 ≤ (x7_2 : Int) := of_decide_eq_true (by first | (with_reducible assumption) | assumption)
                          have q168 : x7_2 < (l0.length : Int) := of_decide_eq_true (by first | (with_reducible assumption) | assumption)
                          obtain ⟨ad168, e168, hx168_0⟩ := Kd.at_int HR0.out x7_2 p168 q168
                          obtain rfl : ad167 = ad168 := (by injection e168)
                          replace p168 := eq_true p168
                          replace q168 := eq_true q168
                          go_wp2_with (first | ((with_reducible refine gate_callee (f := 63) rfl ?_); refine goesL_ (some 28) rfl rfl Try.func63 (by kernel_rfl) rfl #[.int .i64 (rd l0 x10_1), .int .i64 (rd l0 x7_2)] rfl (by (try simp only [List.map_toArray, List.map_cons, List.map_nil]); first | done | rfl | (simp only [List.length_drop, List.length_take]; rfl)) ?_; (with_reducible refine (flash_next.calls (rd l0 x10_1) (rd l0 x7_2) true _ A8.out).mono ?_); rintro e w' ⟨rfl, ⟨nd, rfl⟩⟩; refine ⟨_, rfl, ?_⟩))
                          go_ret
                          exact ⟨by first | rfl | (simp; done) | (simp [*]; done), by repeat (first | exact Drawn0.refl _ | apply Drawn0.step)⟩
                      · replace c10 := Bool.eq_false_iff.mpr c10
                        subst c10
                        have H1 : (some false) = some r := by rw [if_neg (show ¬ (false = true) by decide)] at H; exact H
                        clear H
                        have H := H1
                        clear H1
                        obtain rfl := Option.some.inj H
                        have p168 : 0 ≤ (x7_2 : Int) := of_decide_eq_true (by first | (with_reducible assumption) | assumption)
                        have q168 : x7_2 < (l0.length : Int) := of_decide_eq_true (by first | (with_reducible assumption) | assumption)
                        obtain ⟨ad168, e168, hx168_0⟩ := Kd.at_int HR0.out x7_2 p168 q168
                        obtain rfl : ad167 = ad168 := (by injection e168)
                        replace p168 := eq_true p168
                        replace q168 := eq_true q168
                        go_wp2_with (first | ((with_reducible refine gate_callee (f := 63) rfl ?_); refine goesL_ (some 28) rfl rfl Try.func63 (by kernel_rfl) rfl #[.int .i64 (rd l0 x10_1), .int .i64 (rd l0 x7_2)] rfl (by (try simp only [List.map_toArray, List.map_cons, List.map_nil]); first | done | rfl | (simp only [List.length_drop, List.length_take]; rfl)) ?_; (with_reducible refine (flash_next.calls (rd l0 x10_1) (rd l0 x7_2) true _ A8.out).mono ?_); rintro e w' ⟨rfl, ⟨nd, rfl⟩⟩; refine ⟨_, rfl, ?_⟩))
                        go_ret
                        exact ⟨by first | rfl | (simp; done) | (simp [*]; done), by repeat (first | exact Drawn0.refl _ | apply Drawn0.step)⟩
                    · replace c9 := Bool.eq_false_iff.mpr c9
                      subst c9
                      have H1 : (flash_snake.l1 k2 l0 a1 x10_1 (rd l0 x10_1) (wrap64 (x7_2 + 1)) l0 (l0.length : Int) x10_1) = some r := by rw [if_neg (show ¬ (false = true) by decide)] at H; exact H
                      clear H
                      have H := H1
                      clear H1
                      have H' := Aside0.mk H
                      clear H
                      have p168 : 0 ≤ (x7_2 : Int) := of_decide_eq_true (by first | (with_reducible assumption) | assumption)
                      have q168 : x7_2 < (l0.length : Int) := of_decide_eq_true (by first | (with_reducible assumption) | assumption)
                      obtain ⟨ad168, e168, hx168_0⟩ := Kd.at_int HR0.out x7_2 p168 q168
                      obtain rfl : ad167 = ad168 := (by injection e168)
                      replace p168 := eq_true p168
                      replace q168 := eq_true q168
                      go_wp2_with (first | ((with_reducible refine gate_callee (f := 63) rfl ?_); refine goesL_ (some 28) rfl rfl Try.func63 (by kernel_rfl) rfl #[.int .i64 (rd l0 x10_1), .int .i64 (rd l0 x7_2)] rfl (by (try simp only [List.map_toArray, List.map_cons, List.map_nil]); first | done | rfl | (simp only [List.length_drop, List.length_take]; rfl)) ?_; (with_reducible refine (flash_next.calls (rd l0 x10_1) (rd l0 x7_2) false _ A8.out).mono ?_); rintro e w' ⟨rfl, ⟨nd, rfl⟩⟩; refine ⟨_, rfl, ?_⟩))
                      go_roundg k2
                      case measure => have := HK1.out; have := HK2.out; omega
                      case rel => exact ⟨(wrap64 (x7_2 + 1)), (by first | rfl | (simp; done) | (simp [*]; done)), H', ⟨by have := HK1.out; have := HK2.out; omega⟩, by repeat (first | exact Drawn0.refl _ | apply Drawn0.step)⟩
                  · rw [if_neg c7] at H
                    exact absurd H (by simp)
                · rw [if_neg c6] at H
                  have c6b0 : decide (x7_2 < (l0.length : Int)) = false := decide_eq_false c6
                  clear c6
                  have H' := Aside0.mk H
                  clear H
                  go_wp2
                  go_roundg k2
                  case measure => have := HK1.out; have := HK2.out; omega
                  case rel => exact ⟨(wrap64 (x10_1 + 1)), (by first | rfl | (simp; done) | (simp [*]; done)), H', ⟨by have := HK1.out; have := HK2.out; omega⟩, by repeat (first | exact Drawn0.refl _ | apply Drawn0.step)⟩
          · rw [if_neg c5] at H
            exact absurd H (by simp)
        · rw [if_neg c4] at H
          exact absurd H (by simp)
      · rw [if_neg c3] at H
        have c3b0 : decide (x10_1 < (l0.length : Int)) = false := decide_eq_false c3
        clear c3
        obtain rfl := Option.some.inj H
        go_wp2
        go_ret
        exact ⟨by first | rfl | (simp; done) | (simp [*]; done), by repeat (first | exact Drawn0.refl _ | apply Drawn0.step)⟩

end Go.Proofs.Ytnakkdaeehglnaa.P

namespace Go.Proofs.Ytnakkdaeehglnaa.P
open Go.RowKit Go.Proofs.YtnakkdaeehglnaaW.PrintWords Go.Proofs.YtnakkdaeehglnaaW.PrintLast Go.Proofs.YtnakkdaeehglnaaW.PrintMore
attribute [local go_sem] max2_int min2_int max_two min_two max_three min_three max_four min_four   -- for this text's walks alone
set_option linter.unusedVariables false
set_option linter.unusedSimpArgs false

/-! ### cmp_isNaN_int: function 75 -/
def cmp_isNaN_int.f (a0 : Int) : Option (Bool) := some (a0 != a0)
set_option maxHeartbeats 8000000 in
set_option maxRecDepth 100000 in
theorem cmp_isNaN_int.calls (a0 : Int) (r : Bool) (w : World) (h : cmp_isNaN_int.f a0 = some r) :
    Calls Try.prog 75 #[.int .i64 a0] w fun e w' => e = .returned (.bool r) ∧ Drawn0 w w' := by
  have H : (some (a0 != a0)) = some r := h
  clear h
  obtain rfl := Option.some.inj H
  go_enter Try.func75, Try.ntmps75
  go_wp2
  go_ret
  exact ⟨by first | rfl | (simp; done) | (simp [*]; done), by repeat (first | exact Drawn0.refl _ | apply Drawn0.step)⟩

end Go.Proofs.Ytnakkdaeehglnaa.P

namespace Go.Proofs.Ytnakkdaeehglnaa.P
open Go.RowKit Go.Proofs.YtnakkdaeehglnaaW.PrintWords Go.Proofs.YtnakkdaeehglnaaW.PrintLast Go.Proofs.YtnakkdaeehglnaaW.PrintMore
attribute [local go_sem] max2_int min2_int max_two min_two max_three min_three max_four min_four   -- for this text's walks alone
set_option linter.unusedVariables false
set_option linter.unusedSimpArgs false

/-! ### cmp_Compare_int: function 64 -/
def cmp_Compare_int.f (a0 : Int) (a1 : Int) : Option (Int) := (cmp_isNaN_int.f a0).bind fun t101 => ((cmp_isNaN_int.f a1).bind fun t102 => (if t101 = true then (if t102 = true then (some 0) else (some (-1))) else (if t102 = true then (some 1) else (if a0 < a1 then (some (-1)) else (if a0 > a1 then (some 1) else (some 0))))))
set_option maxHeartbeats 8000000 in
set_option maxRecDepth 100000 in
theorem cmp_Compare_int.calls (a0 : Int) (a1 : Int) (r : Int) (w : World) (h : cmp_Compare_int.f a0 a1 = some r) :
    Calls Try.prog 64 #[.int .i64 a0, .int .i64 a1] w fun e w' => e = .returned (.int .i64 r) ∧ Drawn0 w w' := by
  have H : ((cmp_isNaN_int.f a0).bind fun t101 => ((cmp_isNaN_int.f a1).bind fun t102 => (if t101 = true then (if t102 = true then (some 0) else (some (-1))) else (if t102 = true then (some 1) else (if a0 < a1 then (some (-1)) else (if a0 > a1 then (some 1) else (some 0))))))) = some r := h
  clear h
  replace H := Option.bind_eq_some_iff.mp H
  obtain ⟨t101, A30, H⟩ := H
  replace H : ((cmp_isNaN_int.f a1).bind fun t102 => (if t101 = true then (if t102 = true then (some 0) else (some (-1))) else (if t102 = true then (some 1) else (if a0 < a1 then (some (-1)) else (if a0 > a1 then (some 1) else (some 0)))))) = some r := H
  have A3 := Aside0.mk A30
  clear A30
  replace H := Option.bind_eq_some_iff.mp H
  obtain ⟨t102, A40, H⟩ := H
  replace H : (if t101 = true then (if t102 = true then (some 0) else (some (-1))) else (if t102 = true then (some 1) else (if a0 < a1 then (some (-1)) else (if a0 > a1 then (some 1) else (some 0))))) = some r := H
  have A4 := Aside0.mk A40
  clear A40
  by_cases c5 : t101 = true
  · subst c5
    have H1 : (if t102 = true then (some 0) else (some (-1))) = some r := by rw [if_pos rfl] at H; exact H
    clear H
    have H := H1
    clear H1
    by_cases c6 : t102 = true
    · subst c6
      have H1 : (some 0) = some r := by rw [if_pos rfl] at H; exact H
      clear H
      have H := H1
      clear H1
      obtain rfl := Option.some.inj H
      go_enter Try.func64, Try.ntmps64
      go_wp2_with (first | ((with_reducible refine gate_callee (f := 75) rfl ?_); refine goesL_ (some 8) rfl rfl Try.func75 (by kernel_rfl) rfl #[.int .i64 a0] rfl (by (try simp only [List.map_toArray, List.map_cons, List.map_nil]); first | done | rfl | (simp only [List.length_drop, List.length_take]; rfl)) ?_; (with_reducible refine (cmp_isNaN_int.calls a0 true _ A3.out).mono ?_); rintro e w' ⟨rfl, ⟨nd, rfl⟩⟩; refine ⟨_, rfl, ?_⟩) | ((with_reducible refine gate_callee (f := 75) rfl ?_); refine goesL_ (some 10) rfl rfl Try.func75 (by kernel_rfl) rfl #[.int .i64 a1] rfl (by (try simp only [List.map_toArray, List.map_cons, List.map_nil]); first | done | rfl | (simp only [List.length_drop, List.length_take]; rfl)) ?_; (with_reducible refine (cmp_isNaN_int.calls a1 true _ A4.out).mono ?_); rintro e w' ⟨rfl, ⟨nd, rfl⟩⟩; refine ⟨_, rfl, ?_⟩))
      go_ret
      exact ⟨by first | rfl | (simp; done) | (simp [*]; done), by repeat (first | exact Drawn0.refl _ | apply Drawn0.step)⟩
    · replace c6 := Bool.eq_false_iff.mpr c6
      subst c6
      have H1 : (some (-1)) = some r := by rw [if_neg (show ¬ (false = true) by decide)] at H; exact H
      clear H
      have H := H1
      clear H1
      obtain rfl := Option.some.inj H
      go_enter Try.func64, Try.ntmps64
      go_wp2_with (first | ((with_reducible refine gate_callee (f := 75) rfl ?_); refine goesL_ (some 8) rfl rfl Try.func75 (by kernel_rfl) rfl #[.int .i64 a0] rfl (by (try simp only [List.map_toArray, List.map_cons, List.map_nil]); first | done | rfl | (simp only [List.length_drop, List.length_take]; rfl)) ?_; (with_reducible refine (cmp_isNaN_int.calls a0 true _ A3.out).mono ?_); rintro e w' ⟨rfl, ⟨nd, rfl⟩⟩; refine ⟨_, rfl, ?_⟩) | ((with_reducible refine gate_callee (f := 75) rfl ?_); refine goesL_ (some 10) rfl rfl Try.func75 (by kernel_rfl) rfl #[.int .i64 a1] rfl (by (try simp only [List.map_toArray, List.map_cons, List.map_nil]); first | done | rfl | (simp only [List.length_drop, List.length_take]; rfl)) ?_; (with_reducible refine (cmp_isNaN_int.calls a1 false _ A4.out).mono ?_); rintro e w' ⟨rfl, ⟨nd, rfl⟩⟩; refine ⟨_, rfl, ?_⟩))
      go_ret
      exact ⟨by first | rfl | (simp; done) | (simp [*]; done), by repeat (first | exact Drawn0.refl _ | apply Drawn0.step)⟩
  · replace c5 := Bool.eq_false_iff.mpr c5
    subst c5
    have H1 : (if t102 = true then (some 1) else (if a0 < a1 then (some (-1)) else (if a0 > a1 then (some 1) else (some 0)))) = some r := by rw [if_neg (show ¬ (false = true) by decide)] at H; exact H
    clear H
    have H := H1
    clear H1
    by_cases c7 : t102 = true
    · subst c7
      have H1 : (some 1) = some r := by rw [if_pos rfl] at H; exact H
      clear H
      have H := H1
      clear H1
      obtain rfl := Option.some.inj H
      go_enter Try.func64, Try.ntmps64
      go_wp2_with (first | ((with_reducible refine gate_callee (f := 75) rfl ?_); refine goesL_ (some 8) rfl rfl Try.func75 (by kernel_rfl) rfl #[.int .i64 a0] rfl (by (try simp only [List.map_toArray, List.map_cons, List.map_nil]); first | done | rfl | (simp only [List.length_drop, List.length_take]; rfl)) ?_; (with_reducible refine (cmp_isNaN_int.calls a0 false _ A3.out).mono ?_); rintro e w' ⟨rfl, ⟨nd, rfl⟩⟩; refine ⟨_, rfl, ?_⟩) | ((with_reducible refine gate_callee (f := 75) rfl ?_); refine goesL_ (some 10) rfl rfl Try.func75 (by kernel_rfl) rfl #[.int .i64 a1] rfl (by (try simp only [List.map_toArray, List.map_cons, List.map_nil]); first | done | rfl | (simp only [List.length_drop, List.length_take]; rfl)) ?_; (with_reducible refine (cmp_isNaN_int.calls a1 true _ A4.out).mono ?_); rintro e w' ⟨rfl, ⟨nd, rfl⟩⟩; refine ⟨_, rfl, ?_⟩))
      go_ret
      exact ⟨by first | rfl | (simp; done) | (simp [*]; done), by repeat (first | exact Drawn0.refl _ | apply Drawn0.step)⟩
    · replace c7 := Bool.eq_false_iff.mpr c7
      subst c7
      have H1 : (if a0 < a1 then (some (-1)) else (if a0 > a1 then (some 1) else (some 0))) = some r := by rw [if_neg (show ¬ (false = true) by decide)] at H; exact H
      clear H
      have H := H1
      clear H1
      by_cases c8 : a0 < a1
      · rw [if_pos c8] at H
        have c8b0 : decide (a0 < a1) = true := decide_eq_true c8
        clear c8
        obtain rfl := Option.some.inj H
        go_enter Try.func64, Try.ntmps64
        go_wp2_with (first | ((with_reducible refine gate_callee (f := 75) rfl ?_); refine goesL_ (some 8) rfl rfl Try.func75 (by kernel_rfl) rfl #[.int .i64 a0] rfl (by (try simp only [List.map_toArray, List.map_cons, List.map_nil]); first | done | rfl | (simp only [List.length_drop, List.length_take]; rfl)) ?_; (with_reducible refine (cmp_isNaN_int.calls a0 false _ A3.out).mono ?_); rintro e w' ⟨rfl, ⟨nd, rfl⟩⟩; refine ⟨_, rfl, ?_⟩) | ((with_reducible refine gate_callee (f := 75) rfl ?_); refine goesL_ (some 10) rfl rfl Try.func75 (by kernel_rfl) rfl #[.int .i64 a1] rfl (by (try simp only [List.map_toArray, List.map_cons, List.map_nil]); first | done | rfl | (simp only [List.length_drop, List.length_take]; rfl)) ?_; (with_reducible refine (cmp_isNaN_int.calls a1 false _ A4.out).mono ?_); rintro e w' ⟨rfl, ⟨nd, rfl⟩⟩; refine ⟨_, rfl, ?_⟩))
        go_ret
        exact ⟨by first | rfl | (simp; done) | (simp [*]; done), by repeat (first | exact Drawn0.refl _ | apply Drawn0.step)⟩
      · rw [if_neg c8] at H
        have c8b0 : decide (a0 < a1) = false := decide_eq_false c8
        clear c8
        by_cases c9 : a0 > a1
        · rw [if_pos c9] at H
          have c9b0 : decide (a1 < a0) = true := decide_eq_true c9
          clear c9
          obtain rfl := Option.some.inj H
          go_enter Try.func64, Try.ntmps64
          go_wp2_with (first | ((with_reducible refine gate_callee (f := 75) rfl ?_); refine goesL_ (some 8) rfl rfl Try.func75 (by kernel_rfl) rfl #[.int .i64 a0] rfl (by (try simp only [List.map_toArray, List.map_cons, List.map_nil]); first | done | rfl | (simp only [List.length_drop, List.length_take]; rfl)) ?_; (with_reducible refine (cmp_isNaN_int.calls a0 false _ A3.out).mono ?_); rintro e w' ⟨rfl, ⟨nd, rfl⟩⟩; refine ⟨_, rfl, ?_⟩) | ((with_reducible refine gate_callee (f := 75) rfl ?_); refine goesL_ (some 10) rfl rfl Try.func75 (by kernel_rfl) rfl #[.int .i64 a1] rfl (by (try simp only [List.map_toArray, List.map_cons, List.map_nil]); first | done | rfl | (simp only [List.length_drop, List.length_take]; rfl)) ?_; (with_reducible refine (cmp_isNaN_int.calls a1 false _ A4.out).mono ?_); rintro e w' ⟨rfl, ⟨nd, rfl⟩⟩; refine ⟨_, rfl, ?_⟩))
          go_ret
          exact ⟨by first | rfl | (simp; done) | (simp [*]; done), by repeat (first | exact Drawn0.refl _ | apply Drawn0.step)⟩
        · rw [if_neg c9] at H
          have c9b0 : decide (a1 < a0) = false := decide_eq_false c9
          clear c9
          obtain rfl := Option.some.inj H
          go_enter Try.func64, Try.ntmps64
          go_wp2_with (first | ((with_reducible refine gate_callee (f := 75) rfl ?_); refine goesL_ (some 8) rfl rfl Try.func75 (by kernel_rfl) rfl #[.int .i64 a0] rfl (by (try simp only [List.map_toArray, List.map_cons, List.map_nil]); first | done | rfl | (simp only [List.length_drop, List.length_take]; rfl)) ?_; (with_reducible refine (cmp_isNaN_int.calls a0 false _ A3.out).mono ?_); rintro e w' ⟨rfl, ⟨nd, rfl⟩⟩; refine ⟨_, rfl, ?_⟩) | ((with_reducible refine gate_callee (f := 75) rfl ?_); refine goesL_ (some 10) rfl rfl Try.func75 (by kernel_rfl) rfl #[.int .i64 a1] rfl (by (try simp only [List.map_toArray, List.map_cons, List.map_nil]); first | done | rfl | (simp only [List.length_drop, List.length_take]; rfl)) ?_; (with_reducible refine (cmp_isNaN_int.calls a1 false _ A4.out).mono ?_); rintro e w' ⟨rfl, ⟨nd, rfl⟩⟩; refine ⟨_, rfl, ?_⟩))
          go_ret
          exact ⟨by first | rfl | (simp; done) | (simp [*]; done), by repeat (first | exact Drawn0.refl _ | apply Drawn0.step)⟩

end Go.Proofs.Ytnakkdaeehglnaa.P

namespace Go.Proofs.Ytnakkdaeehglnaa.P
open Go.RowKit Go.Proofs.YtnakkdaeehglnaaW.PrintWords Go.Proofs.YtnakkdaeehglnaaW.PrintLast Go.Proofs.YtnakkdaeehglnaaW.PrintMore
attribute [local go_sem] max2_int min2_int max_two min_two max_three min_three max_four min_four   -- for this text's walks alone
set_option linter.unusedVariables false
set_option linter.unusedSimpArgs false

/-! ### slices_Compare_int_int: function 49 -/
def slices_Compare_int_int.l0 : Nat → List Int → List Int → List Int → Int → Int → Option (Int)
  | 0, _, _, _, _, _ => none
  | k + 1, x0, x1, x9, x10, x11 => if x11 < x10 then (if 0 ≤ x11 then (if x11 < (x9.length : Int) then (if x11 ≥ (x1.length : Int) then (some 1) else (if x11 < (x1.length : Int) then ((cmp_Compare_int.f (rd x9 x11) (rd x1 x11)).bind fun t105 => (if t105 = 0 then (slices_Compare_int_int.l0 k x0 x1 x9 x10 (wrap64 (x11 + 1))) else (some t105))) else (none))) else (none)) else (none)) else (if (x0.length : Int) < (x1.length : Int) then (some (-1)) else (some 0))
def slices_Compare_int_int.f (k : Nat) (l0 : List Int) (l1 : List Int) : Option (Int) := slices_Compare_int_int.l0 k l0 l1 l0 (l0.length : Int) 0
theorem slices_Compare_int_int.mono_l : ∀ k, (∀ y0 y1 y2 y3 y4, LeO (slices_Compare_int_int.l0 k y0 y1 y2 y3 y4) (slices_Compare_int_int.l0 (k + 1) y0 y1 y2 y3 y4))
  | 0 => fun _ _ _ _ _ r h => by simp [slices_Compare_int_int.l0] at h
  | k + 1 => by
    have ih0 := slices_Compare_int_int.mono_l k
    · intro y0 y1 y2 y3 y4
      unfold slices_Compare_int_int.l0
      repeat' first
      | (with_reducible exact ih0 _ _ _ _ _)
      | (with_reducible exact LeO.refl _)
      | (with_reducible exact LeO.none _)
      | (with_reducible refine LeO.ite ?_ ?_)
      | (with_reducible refine LeO.bind ?_ (fun _ => ?_))
      | exact ih0 _ _ _ _ _
      | exact LeO.none _
      | refine LeO.ite ?_ ?_
      | refine LeO.bind ?_ (fun _ => ?_)
theorem slices_Compare_int_int.mono : ∀ a0 a1 k, LeO (slices_Compare_int_int.f k a0 a1) (slices_Compare_int_int.f (k + 1) a0 a1) := by
  intro a0 a1 k
  have ih0 := slices_Compare_int_int.mono_l k
  unfold slices_Compare_int_int.f
  repeat' first
      | (with_reducible exact ih0 _ _ _ _ _)
      | (with_reducible exact LeO.refl _)
      | (with_reducible exact LeO.none _)
      | (with_reducible refine LeO.ite ?_ ?_)
      | (with_reducible refine LeO.bind ?_ (fun _ => ?_))
      | exact ih0 _ _ _ _ _
      | exact LeO.none _
      | refine LeO.ite ?_ ?_
      | refine LeO.bind ?_ (fun _ => ?_)
set_option maxHeartbeats 8000000 in
set_option maxRecDepth 100000 in
theorem slices_Compare_int_int.calls (k : Nat) (A0 : Option Addr) (c0 : Nat) (l0 : List Int) (A1 : Option Addr) (c1 : Nat) (l1 : List Int) (r : Int) (w : World) (hr0 : Kd.C (Kd.int .i64) w A0 l0.length l0) (hc0 : l0.length ≤ c0) (hr1 : Kd.C (Kd.int .i64) w A1 l1.length l1) (hc1 : l1.length ≤ c1) (h : slices_Compare_int_int.f k l0 l1 = some r) :
    Calls Try.prog 49 #[.slice A0 l0.length c0, .slice A1 l1.length c1] w fun e w' => e = .returned (.int .i64 r) ∧ Drawn0 w w' := by
  have HR0 := Aside0.mk hr0
  have HC0 := Aside0.mk hc0
  clear hr0 hc0
  have HR1 := Aside0.mk hr1
  have HC1 := Aside0.mk hc1
  clear hr1 hc1
  have H : (slices_Compare_int_int.l0 k l0 l1 l0 (l0.length : Int) 0) = some r := h
  clear h
  have H' := Aside0.mk H
  clear H
  go_enter Try.func49, Try.ntmps49
  go_wp2
  go_loopg [11] k (fun kq v11 w' => ∃ (x11_1 : Int), v11 = .int .i64 x11_1 ∧ Aside0 (slices_Compare_int_int.l0 kq l0 l1 l0 (l0.length : Int) x11_1 = some r) ∧ Aside0 (kq ≤ k) ∧ Drawn0 w w')
  case atStart => exact ⟨(0), (by first | rfl | (simp; done) | (simp [*]; done)), H', ⟨Nat.le_refl _⟩, by repeat (first | exact Drawn0.refl _ | apply Drawn0.step)⟩
  case round =>
    clear H'
    try clear c1
    try clear p2
    obtain ⟨x11_1, rfl, HA, HK1, ⟨m1, rfl⟩⟩ := hrel
    cases gk with
    | zero => exact absurd HA.out (by simp [slices_Compare_int_int.l0])
    | succ k1 =>
      have H := HA.out
      clear HA
      simp only [slices_Compare_int_int.l0] at H
      by_cases c3 : x11_1 < (l0.length : Int)
      · rw [if_pos c3] at H
        have c3b0 : decide (x11_1 < (l0.length : Int)) = true := decide_eq_true c3
        clear c3
        by_cases c4 : 0 ≤ x11_1
        · rw [if_pos c4] at H
          have c4b0 : decide (0 ≤ x11_1) = true := decide_eq_true c4
          clear c4
          by_cases c5 : x11_1 < (l0.length : Int)
          · rw [if_pos c5] at H
            have c5b0 : decide (x11_1 < (l0.length : Int)) = true := decide_eq_true c5
            clear c5
            by_cases c6 : x11_1 ≥ (l1.length : Int)
            · rw [if_pos c6] at H
              have c6b0 : decide ((l1.length : Int) ≤ x11_1) = true := decide_eq_true c6
              clear c6
              obtain rfl := Option.some.inj H
              have p103 : 0 ≤ (x11_1 : Int) := of_decide_eq_true (by first | (with_reducible assumption) | assumption)
              have q103 : x11_1 < (l0.length : Int) := of_decide_eq_true (by first | (with_reducible assumption) | assumption)
              obtain ⟨ad103, e103, hx103_0⟩ := Kd.at_int HR0.out x11_1 p103 q103
              cases e103
              replace p103 := eq_true p103
              replace q103 := eq_true q103
              go_wp2
              go_ret
              exact ⟨by first | rfl | (simp; done) | (simp [*]; done), by repeat (first | exact Drawn0.refl _ | apply Drawn0.step)⟩
            · rw [if_neg c6] at H
              have c6b0 : decide ((l1.length : Int) ≤ x11_1) = false := decide_eq_false c6
              clear c6
              by_cases c7 : x11_1 < (l1.length : Int)
              · rw [if_pos c7] at H
                have c7b0 : decide (x11_1 < (l1.length : Int)) = true := decide_eq_true c7
                clear c7
                replace H := Option.bind_eq_some_iff.mp H
                obtain ⟨t105, A80, H⟩ := H
                replace H : (if t105 = 0 then (slices_Compare_int_int.l0 k1 l0 l1 l0 (l0.length : Int) (wrap64 (x11_1 + 1))) else (some t105)) = some r := H
                have A8 := Aside0.mk A80
                clear A80
                by_cases c9 : t105 = 0
                · rw [if_pos c9] at H
                  have c9b0 : (t105 == 0) = true := beq_iff_eq.mpr c9
                  have c9b1 : (t105 != 0) = false := bne_eq_false_iff_eq.mpr c9
                  clear c9
                  have H' := Aside0.mk H
                  clear H
                  have p103 : 0 ≤ (x11_1 : Int) := of_decide_eq_true (by first | (with_reducible assumption) | assumption)
                  have q103 : x11_1 < (l0.length : Int) := of_decide_eq_true (by first | (with_reducible assumption) | assumption)
                  obtain ⟨ad103, e103, hx103_0⟩ := Kd.at_int HR0.out x11_1 p103 q103
                  cases e103
                  replace p103 := eq_true p103
                  replace q103 := eq_true q103
                  have p104 : 0 ≤ (x11_1 : Int) := of_decide_eq_true (by first | (with_reducible assumption) | assumption)
                  have q104 : x11_1 < (l1.length : Int) := of_decide_eq_true (by first | (with_reducible assumption) | assumption)
                  obtain ⟨ad104, e104, hx104_0⟩ := Kd.at_int HR1.out x11_1 p104 q104
                  cases e104
                  replace p104 := eq_true p104
                  replace q104 := eq_true q104
                  go_wp2_with (first | ((with_reducible refine gate_callee (f := 64) rfl ?_); refine goesL_ (some 26) rfl rfl Try.func64 (by kernel_rfl) rfl #[.int .i64 (rd l0 x11_1), .int .i64 (rd l1 x11_1)] rfl (by (try simp only [List.map_toArray, List.map_cons, List.map_nil]); first | done | rfl | (simp only [List.length_drop, List.length_take]; rfl)) ?_; (with_reducible refine (cmp_Compare_int.calls (rd l0 x11_1) (rd l1 x11_1) t105 _ A8.out).mono ?_); rintro e w' ⟨rfl, ⟨nd, rfl⟩⟩; refine ⟨_, rfl, ?_⟩))
                  go_roundg k1
                  case measure => have := HK1.out; omega
                  case rel => exact ⟨(wrap64 (x11_1 + 1)), (by first | rfl | (simp; done) | (simp [*]; done)), H', ⟨by have := HK1.out; omega⟩, by repeat (first | exact Drawn0.refl _ | apply Drawn0.step)⟩
                · rw [if_neg c9] at H
                  have c9b0 : (t105 == 0) = false := beq_eq_false_iff_ne.mpr c9
                  have c9b1 : (t105 != 0) = true := bne_iff_ne.mpr c9
                  obtain rfl := Option.some.inj H
                  have p103 : 0 ≤ (x11_1 : Int) := of_decide_eq_true (by first | (with_reducible assumption) | assumption)
                  have q103 : x11_1 < (l0.length : Int) := of_decide_eq_true (by first | (with_reducible assumption) | assumption)
                  obtain ⟨ad103, e103, hx103_0⟩ := Kd.at_int HR0.out x11_1 p103 q103
                  cases e103
                  replace p103 := eq_true p103
                  replace q103 := eq_true q103
                  have p104 : 0 ≤ (x11_1 : Int) := of_decide_eq_true (by first | (with_reducible assumption) | assumption)
                  have q104 : x11_1 < (l1.length : Int) := of_decide_eq_true (by first | (with_reducible assumption) | assumption)
                  obtain ⟨ad104, e104, hx104_0⟩ := Kd.at_int HR1.out x11_1 p104 q104
                  cases e104
                  replace p104 := eq_true p104
                  replace q104 := eq_true q104
                  go_wp2_with (first | ((with_reducible refine gate_callee (f := 64) rfl ?_); refine goesL_ (some 26) rfl rfl Try.func64 (by kernel_rfl) rfl #[.int .i64 (rd l0 x11_1), .int .i64 (rd l1 x11_1)] rfl (by (try simp only [List.map_toArray, List.map_cons, List.map_nil]); first | done | rfl | (simp only [List.length_drop, List.length_take]; rfl)) ?_; (with_reducible refine (cmp_Compare_int.calls (rd l0 x11_1) (rd l1 x11_1) t105 _ A8.out).mono ?_); rintro e w' ⟨rfl, ⟨nd, rfl⟩⟩; refine ⟨_, rfl, ?_⟩))
                  go_ret
                  exact ⟨by first | rfl | (simp; done) | (simp [*]; done), by repeat (first | exact Drawn0.refl _ | apply Drawn0.step)⟩
              · rw [if_neg c7] at H
                exact absurd H (by simp)
          · rw [if_neg c5] at H
            exact absurd H (by simp)
        · rw [if_neg c4] at H
          exact absurd H (by simp)
      · rw [if_neg c3] at H
        have c3b0 : decide (x11_1 < (l0.length : Int)) = false := decide_eq_false c3
        clear c3
        by_cases c10 : (l0.length : Int) < (l1.length : Int)
        · rw [if_pos c10] at H
          have c10b0 : decide ((l0.length : Int) < (l1.length : Int)) = true := decide_eq_true c10
          have c10b1 : decide (l0.length < l1.length) = true := decide_eq_true (Int.ofNat_lt.mp c10)
          clear c10
          obtain rfl := Option.some.inj H
          go_wp2
          go_ret
          exact ⟨by first | rfl | (simp; done) | (simp [*]; done), by repeat (first | exact Drawn0.refl _ | apply Drawn0.step)⟩
        · rw [if_neg c10] at H
          have c10b0 : decide ((l0.length : Int) < (l1.length : Int)) = false := decide_eq_false c10
          have c10b1 : decide (l0.length < l1.length) = false := decide_eq_false (fun h => c10 (Int.ofNat_lt.mpr h))
          clear c10
          obtain rfl := Option.some.inj H
          go_wp2
          go_ret
          exact ⟨by first | rfl | (simp; done) | (simp [*]; done), by repeat (first | exact Drawn0.refl _ | apply Drawn0.step)⟩

end Go.Proofs.Ytnakkdaeehglnaa.P

set_option linter.unusedSimpArgs false
set_option linter.unusedVariables false
namespace Go.Proofs.Ytnakkdaeehglnaa.P
open Go.Lib Go.RowKit Go.Proofs.YtnakkdaeehglnaaW.PrintWords Go.Proofs.YtnakkdaeehglnaaW.PrintLast Go.Proofs.YtnakkdaeehglnaaW.PrintMore Go.Proofs.Ytnakkdaeehglnaa.Kit
attribute [local go_sem] max2_int min2_int max_two min_two max_three min_three max_four min_four

/-- What the visitor of Coil makes of one state more. -/
def coilC (l : List Int) (t : Nat) (best : List Int) : Option (List Int) :=
  let c := l ++ [flip (lastI l) t]
  (flash_path.f c).bind fun p => if p = true then
    (flash_closed.f c).bind fun q => if q = true then
      (flash_snake.f 700 c true).bind fun s => if s = true then
        (if best.length < c.length then some c else if c.length = best.length then (slices_Compare_int_int.f 700 c best).bind fun d => if d < 0 then some c else some best else some best)
        else some best
      else some best
    else some best
def coilStep (n : Nat) (best l : List Int) : Option (List Int) := (List.range n).foldlM (fun b t => coilC l t b) best
/-- The box of best, what it owns, and the box of the number of tubes. -/
def CoilAt (n B Bn Bb : Nat) (st : List Int) (W : World) : Prop :=
  BoxAt Bb st W ∧ W.cell? ⟨Bn, 0, none⟩ = some (.int .i64 (n : Int)) ∧ Bn ≠ Bb ∧ ∃ v, W.cell? ⟨Bb, 0, none⟩ = some v ∧ Kd.R (Kd.int .i64) 3 W B (fun k => k ≠ Bb) v st ∧ (st = [] → v = .slice none 0 0)
theorem CoilAt.keep {n B Bn Bb : Nat} {st : List Int} {W W' : World} (h : CoilAt n B Bn Bb st W) (hb : Below W.heap.size W W') : CoilAt n B Bn Bb st W' := by
  obtain ⟨h1, h2, h3, v, h4, h5, h6⟩ := h
  exact ⟨h1.keep hb, pw_cell_below hb h2, h3, v, pw_cell_below hb h4, Kd.R_below h5 hb, h6⟩
theorem CoilAt.frozen {n B Bn Bb : Nat} {st : List Int} {W : World} (h : CoilAt n B Bn Bb st W) : W.frozen? ⟨Bb, 0, none⟩ = false := by
  obtain ⟨A, c, h1, _⟩ := h.1
  unfold World.frozen?
  rw [h1]
  rfl
theorem CoilAt.put' {n B Bn Bb : Nat} {st : List Int} {W : World} (h : CoilAt n B Bn Bb st W) {A : Option Addr} {c : Nat} {l : List Int} (hC : Kd.C (Kd.int .i64) W A l.length l) (hc : l.length ≤ c)
    (hR : Kd.R (Kd.int .i64) 3 W B (fun k => k ≠ Bb) (.slice A l.length c) l) (hl : l ≠ []) :
    CoilAt n B Bn Bb l (W.setCell ⟨Bb, 0, none⟩ (.slice A l.length c)) ∧ Kept W (W.setCell ⟨Bb, 0, none⟩ (.slice A l.length c)) (fun k => k = Bb) := by
  obtain ⟨h1, h2⟩ := h.1.put hC hc
  refine ⟨⟨h1, cell_kept h2 h.2.1 h.2.2.1, h.2.2.1, _, ?_, Kd.R_far hR (fun k hk => hk) _, fun e => absurd e hl⟩, h2⟩
  obtain ⟨A', c', h3, h4, h5⟩ := h1
  obtain ⟨A0, c0, g1, _⟩ := h.1
  unfold World.cell?
  simp only [World.setCell, Array.getElem?_modify, if_true, g1, Option.map_some]
  rfl
theorem appended_R {k : IntKind} {W : World} {base e Bb : Nat} {v : Value} {l : List Int} {s : Int} (h : W.ownsRow base e 1 v (l.length + 1) (nums k l ++ [.int k s])) (hB : Bb < base) :
    Kd.R (Kd.int k) e W base (fun k => k ≠ Bb) v (l ++ [s]) := by
  have hl : (l ++ [s]).length = l.length + 1 := by simp
  have h2 : W.ownsRow base e 1 v (l ++ [s]).length (nums k (l ++ [s])) := by rw [hl, nums_append]; exact h
  exact R_int_mk (fun k hk => by have := own_base h2 k hk; omega) h2
section
set_option maxHeartbeats 4000000
set_option maxRecDepth 100000
theorem coil_visits (n B Bn Bb : Nat) (hn : 1 ≤ n ∧ n ≤ 12) (hle : B ≤ Bb) : Visits (coilStep n) (CoilAt n B Bn Bb) B Bb 45 #[.pointer (some ⟨Bn, 0, none⟩), .pointer (some ⟨Bb, 0, none⟩)] where
  eg := enters_of Try.func45 (by kernel_rfl) rfl
  le := hle
  box := fun st W h => by obtain ⟨⟨A, c, h1, _⟩, _⟩ := h; exact ⟨A, _, c, h1⟩
  keep := fun st W W' h hb => h.keep hb
  visit := by
    intro st st' l A c W hst hs h0 h5 hJ hC hc
    show Calls _ _ #[.slice A l.length c, .pointer (some ⟨Bn, 0, none⟩), .pointer (some ⟨Bb, 0, none⟩)] W _
    obtain ⟨ad, e1, hx⟩ := Kd.at_int hC ((l.length : Int) - 1) (by omega) (by omega)
    subst e1
    rw [show ((l.length : Int) - 1).toNat = l.length - 1 from by omega] at hx
    have hm1 : wrap64 ((l.length : Int) - 1) = (l.length : Int) - 1 := w64 (by omega) (by omega)
    have hcn := hJ.2.1
    have p1 : (1 : Int) ≤ l.length := by omega
    have p1' : 1 ≤ l.length := by omega
    have q1 : (l.length : Int) - 1 < l.length := by omega
    replace p1 := eq_true p1
    replace p1' := eq_true p1'
    replace q1 := eq_true q1
    go_enter Try.func45, Try.ntmps45
    go_wp2
    have hS : rd l ((l.length : Int) - 1) = lastI l := rfl
    have HX := Aside0.mk hx
    have HSs := Aside0.mk (small_rd hs ((l.length : Int) - 1))
    have HSm := Aside0.mk hs
    have HCl := Aside0.mk hC
    have HCc := Aside0.mk hc
    have HN := Aside0.mk hn
    have HLn := Aside0.mk (show 0 < l.length ∧ l.length < 5000 from ⟨h0, h5⟩)
    have HJ := Aside0.mk hJ
    have HF := Aside0.mk hst
    obtain ⟨⟨A0, c00, hbox, -⟩, -⟩ := hJ
    have HC1 := Aside0.mk (fun w1 (hk1 : Kept W w1 (fun k => k = Bb)) => C_kept hbox hk1 hC)
    rw [hS] at HSs ⊢
    clear hbox
    clear hx hs hC hc h0 h5 hst hcn
    go_loopw [15] (fun v15 w' => ∃ t : Nat, v15 = .int .i64 (t : Int) ∧ Aside0 (t ≤ n) ∧ Aside0 (∃ sti, ((List.range n).drop t).foldlM (fun b t => coilC l t b) sti = some st' ∧ CoilAt n B Bn Bb sti w') ∧ Aside0 (Kept W w' (fun k => k = Bb)) ∧ Aside0 (Below B W w')) (fun v _ => n - (intOf v).toNat)
    case atStart => exact ⟨0, rfl, ⟨Nat.zero_le _⟩, ⟨st, HF.out, HJ.out⟩, ⟨Kept.refl _ _⟩, ⟨Below.refl _ _⟩⟩
    case round =>
      clear HF HJ
      obtain ⟨t, rfl, HT, HS, HK, HB⟩ := hrel
      by_cases ct : (t : Int) < (n : Int)
      · have c1b : decide ((t : Int) < (n : Int)) = true := decide_eq_true ct
        have c1c : decide (t < n) = true := decide_eq_true (by omega)
        have hi : t < n := by omega
        have Hi := Aside0.mk hi
        obtain ⟨sti, hf, hJi⟩ := HS.out
        rw [List.drop_eq_getElem_cons (by rw [List.length_range]; exact hi), List.foldlM_cons, List.getElem_range] at hf
        obtain ⟨st2, hc2, hf2⟩ := Option.bind_eq_some_iff.1 hf
        have p0 : (0 : Int) ≤ t := by omega
        have hw0 : wrap64 (2 ^ t) = ((2 ^ t : Nat) : Int) := w2 (by omega)
        have hw1 : wrap64 (2 ^ min t 64) = ((2 ^ t : Nat) : Int) := by rw [show min t 64 = t from by omega, hw0]
        have hfx := flip_xor HSs.out (t := t) (by omega)
        generalize ((2 ^ t : Nat) : Int) = Z at hw0 hw1 hfx
        have hF := flip_small HSs.out (t := t) (by omega)
        unfold coilC at hc2
        dsimp only at hc2
        generalize flip (lastI l) t = s at hfx hF hc2
        have hls1 : (l ++ [s]).length = l.length + 1 := by simp
        have HF2 := Aside0.mk hf2
        have HJi := Aside0.mk hJi
        have hcn : wr.cell? ⟨Bn, 0, none⟩ = some (.int .i64 (n : Int)) := hJi.2.1
        obtain ⟨⟨Ab, cb, hbb, hbC, hbc⟩, -⟩ := hJi
        have HLb := Aside0.mk (Array.getElem?_eq_some_iff.1 hbb).1
        have HLe := Aside0.mk (show B ≤ wr.heap.size by have := (Array.getElem?_eq_some_iff.1 hbb).1; omega)
        have HBX := Aside0.mk (show wr.cell? ⟨Bb, 0, none⟩ = some (.slice Ab sti.length cb) by unfold World.cell?; rw [hbb]; rfl)
        have HBC := Aside0.mk hbC
        have HBc := Aside0.mk hbc
        have HCw := Aside0.mk (HC1.out wr HK.out)
        have hi3 := info3
        obtain ⟨i0, hi0, hi1⟩ := Option.map_eq_some_iff.1 hi3
        injection hi1 with hz0 hi2
        injection hi2 with hz1 hz2
        have HI0 := Aside0.mk (show Try.prog.info? 3 = some i0 from hi0)
        have HZ0 := Aside0.mk hz0
        have HZ1 := Aside0.mk hz1
        have HZ2 := Aside0.mk hz2
        have hcI : (l.length : Int) ≤ (c : Int) := by have := HCc.out; omega
        have hcI0 : (0 : Int) ≤ (l.length : Int) := by omega
        have hcN : l.length ≤ c := HCc.out
        clear hf hf2 HS hi hF hi3 hi0 hz0 hz1 hz2 hbb hbC hbc ct
        obtain ⟨p, hp, hc2⟩ := Option.bind_eq_some_iff.1 hc2
        have HP := Aside0.mk hp
        clear hp
        cases p with
        | false =>
          rw [if_neg (by decide)] at hc2
          injection hc2 with hc2
          subst hc2
          have hpath : ∀ A9 c9 w9, Kd.C (Kd.int .i64) w9 A9 (l ++ [s]).length (l ++ [s]) → (l ++ [s]).length ≤ c9 → _ := fun A9 c9 w9 h1 h2 => flash_path.calls A9 c9 (l ++ [s]) false w9 h1 h2 HP.out
          rw [hls1] at hpath
          go_wp2_with (first | ((with_reducible refine gate_builtin (b := .append) (xs := #[.tmp 27, .tmp 29]) rfl ?_); at_builtin; refine wpList_append_grows _ rfl (.tmp 27) (.tmp 29) 22 rfl 3 i0 (.int .i64 0) 1 8 Try.underlying22 HI0.out HZ0.out HZ1.out HZ2.out rfl (by decide) (some ad) l.length l.length (nums .i64 l) (by rfl) (fun h => by cases h) (by rw [nums_length, Nat.mul_one]) (C_cells (Kd.C_below HCw.out (by repeat (first | exact Below.refl _ _ | apply below_alloc | apply pw_below_drewN | apply below_drew)))) ⟨_, 0, none⟩ 1 1 [.int .i64 s] (by rfl) (by rfl) (news_one (by first | exact cell_new _ _ _ | (simp [World.cell?]; done))) (by intro u hu; have hu2 := List.mem_singleton.1 hu; subst hu2; rfl) (by omega) (by unfold maxLen; have := HLn.out; omega) (by have := HLn.out; omega) ?_; intro v9 w9 hown9 hgrow9; have hR9 := appended_R (Bb := Bb) hown9 (by have := HLb.out; simp; omega); obtain ⟨A9, c9, rfl, hc9, hC9⟩ := appended hown9; have HR9 := Aside0.mk hR9; clear hR9; rw [hls1] at hC9 hc9; have HC9 := Aside0.mk hC9; have Hc9 := Aside0.mk hc9; have HB9 := Aside0.mk (show Below wr.heap.size wr w9 from pw_below_grown (by repeat (first | exact Below.refl _ _ | apply below_alloc | apply pw_below_drewN | apply below_drew)) none (by simp; try omega) hgrow9 (fun k hk => by cases hk)); clear hown9 hgrow9 hc9 hC9) | (go_at_call 46; (with_reducible refine (hpath A9 c9 w9 HC9.out Hc9.out).mono ?_); rintro e w10 ⟨rfl, hb10⟩; have HB10 := Aside0.mk (HB9.out.trans (hb10.mono HB9.out.size)); have HC10 := Aside0.mk (Kd.C_below HC9.out hb10); have HBT := Aside0.mk hb10; have hbx := pw_cell_below HB10.out HBX.out; have hfz := (HJi.out.keep HB10.out).frozen; clear hb10))
          go_roundw
          case rel => exact ⟨t + 1, by rw [w64 (x := (t : Int) + 1) (by omega) (by have := Hi.out; have := HN.out; omega)]; rfl, ⟨by have := Hi.out; omega⟩, ⟨⟨sti, HF2.out, HJi.out.keep HB10.out⟩⟩, ⟨HK.out.below HB10.out⟩, ⟨below_then HB.out HLe.out HB10.out⟩⟩
          case measure => rw [w64 (x := (t : Int) + 1) (by omega) (by have := Hi.out; have := HN.out; omega)]; have := Hi.out; simp [intOf]; omega
        | true =>
          rw [if_pos rfl] at hc2
          obtain ⟨q, hq, hc2⟩ := Option.bind_eq_some_iff.1 hc2
          have HQ := Aside0.mk hq
          clear hq
          have hpath : ∀ A9 c9 w9, Kd.C (Kd.int .i64) w9 A9 (l ++ [s]).length (l ++ [s]) → (l ++ [s]).length ≤ c9 → _ := fun A9 c9 w9 h1 h2 => flash_path.calls A9 c9 (l ++ [s]) true w9 h1 h2 HP.out
          rw [hls1] at hpath
          cases q with
          | false =>
            rw [if_neg (by decide)] at hc2
            injection hc2 with hc2
            subst hc2
            have hclosed : ∀ A9 c9 w9, Kd.C (Kd.int .i64) w9 A9 (l ++ [s]).length (l ++ [s]) → (l ++ [s]).length ≤ c9 → _ := fun A9 c9 w9 h1 h2 => flash_closed.calls A9 c9 (l ++ [s]) false w9 h1 h2 HQ.out
            rw [hls1] at hclosed
            go_wp2_with (first | ((with_reducible refine gate_builtin (b := .append) (xs := #[.tmp 27, .tmp 29]) rfl ?_); at_builtin; refine wpList_append_grows _ rfl (.tmp 27) (.tmp 29) 22 rfl 3 i0 (.int .i64 0) 1 8 Try.underlying22 HI0.out HZ0.out HZ1.out HZ2.out rfl (by decide) (some ad) l.length l.length (nums .i64 l) (by rfl) (fun h => by cases h) (by rw [nums_length, Nat.mul_one]) (C_cells (Kd.C_below HCw.out (by repeat (first | exact Below.refl _ _ | apply below_alloc | apply pw_below_drewN | apply below_drew)))) ⟨_, 0, none⟩ 1 1 [.int .i64 s] (by rfl) (by rfl) (news_one (by first | exact cell_new _ _ _ | (simp [World.cell?]; done))) (by intro u hu; have hu2 := List.mem_singleton.1 hu; subst hu2; rfl) (by omega) (by unfold maxLen; have := HLn.out; omega) (by have := HLn.out; omega) ?_; intro v9 w9 hown9 hgrow9; have hR9 := appended_R (Bb := Bb) hown9 (by have := HLb.out; simp; omega); obtain ⟨A9, c9, rfl, hc9, hC9⟩ := appended hown9; have HR9 := Aside0.mk hR9; clear hR9; rw [hls1] at hC9 hc9; have HC9 := Aside0.mk hC9; have Hc9 := Aside0.mk hc9; have HB9 := Aside0.mk (show Below wr.heap.size wr w9 from pw_below_grown (by repeat (first | exact Below.refl _ _ | apply below_alloc | apply pw_below_drewN | apply below_drew)) none (by simp; try omega) hgrow9 (fun k hk => by cases hk)); clear hown9 hgrow9 hc9 hC9) | (go_at_call 46; (with_reducible refine (hpath A9 c9 w9 HC9.out Hc9.out).mono ?_); rintro e w10 ⟨rfl, hb10⟩; have HB10 := Aside0.mk (HB9.out.trans (hb10.mono HB9.out.size)); have HC10 := Aside0.mk (Kd.C_below HC9.out hb10); have HBT := Aside0.mk hb10; have hbx := pw_cell_below HB10.out HBX.out; have hfz := (HJi.out.keep HB10.out).frozen; clear hb10) | (go_at_call 47; (with_reducible refine (hclosed A9 c9 _ HC10.out Hc9.out).mono ?_); rintro e w' ⟨rfl, ⟨nd1, rfl⟩⟩))
            go_roundw
            case rel => exact ⟨t + 1, by rw [w64 (x := (t : Int) + 1) (by omega) (by have := Hi.out; have := HN.out; omega)]; rfl, ⟨by have := Hi.out; omega⟩, ⟨⟨sti, HF2.out, HJi.out.keep (pw_below_drewN HB10.out _)⟩⟩, ⟨HK.out.below (pw_below_drewN HB10.out _)⟩, ⟨below_then HB.out HLe.out (pw_below_drewN HB10.out _)⟩⟩
            case measure => rw [w64 (x := (t : Int) + 1) (by omega) (by have := Hi.out; have := HN.out; omega)]; have := Hi.out; simp [intOf]; omega
          | true =>
            rw [if_pos rfl] at hc2
            obtain ⟨r, hr, hc2⟩ := Option.bind_eq_some_iff.1 hc2
            have HR := Aside0.mk hr
            clear hr
            have hclosed : ∀ A9 c9 w9, Kd.C (Kd.int .i64) w9 A9 (l ++ [s]).length (l ++ [s]) → (l ++ [s]).length ≤ c9 → _ := fun A9 c9 w9 h1 h2 => flash_closed.calls A9 c9 (l ++ [s]) true w9 h1 h2 HQ.out
            rw [hls1] at hclosed
            cases r with
            | false =>
              rw [if_neg (by decide)] at hc2
              injection hc2 with hc2
              subst hc2
              have hsnake : ∀ A9 c9 w9, Kd.C (Kd.int .i64) w9 A9 (l ++ [s]).length (l ++ [s]) → (l ++ [s]).length ≤ c9 → _ := fun A9 c9 w9 h1 h2 => flash_snake.calls 700 A9 c9 (l ++ [s]) true false w9 h1 h2 HR.out
              rw [hls1] at hsnake
              go_wp2_with (first | ((with_reducible refine gate_builtin (b := .append) (xs := #[.tmp 27, .tmp 29]) rfl ?_); at_builtin; refine wpList_append_grows _ rfl (.tmp 27) (.tmp 29) 22 rfl 3 i0 (.int .i64 0) 1 8 Try.underlying22 HI0.out HZ0.out HZ1.out HZ2.out rfl (by decide) (some ad) l.length l.length (nums .i64 l) (by rfl) (fun h => by cases h) (by rw [nums_length, Nat.mul_one]) (C_cells (Kd.C_below HCw.out (by repeat (first | exact Below.refl _ _ | apply below_alloc | apply pw_below_drewN | apply below_drew)))) ⟨_, 0, none⟩ 1 1 [.int .i64 s] (by rfl) (by rfl) (news_one (by first | exact cell_new _ _ _ | (simp [World.cell?]; done))) (by intro u hu; have hu2 := List.mem_singleton.1 hu; subst hu2; rfl) (by omega) (by unfold maxLen; have := HLn.out; omega) (by have := HLn.out; omega) ?_; intro v9 w9 hown9 hgrow9; have hR9 := appended_R (Bb := Bb) hown9 (by have := HLb.out; simp; omega); obtain ⟨A9, c9, rfl, hc9, hC9⟩ := appended hown9; have HR9 := Aside0.mk hR9; clear hR9; rw [hls1] at hC9 hc9; have HC9 := Aside0.mk hC9; have Hc9 := Aside0.mk hc9; have HB9 := Aside0.mk (show Below wr.heap.size wr w9 from pw_below_grown (by repeat (first | exact Below.refl _ _ | apply below_alloc | apply pw_below_drewN | apply below_drew)) none (by simp; try omega) hgrow9 (fun k hk => by cases hk)); clear hown9 hgrow9 hc9 hC9) | (go_at_call 46; (with_reducible refine (hpath A9 c9 w9 HC9.out Hc9.out).mono ?_); rintro e w10 ⟨rfl, hb10⟩; have HB10 := Aside0.mk (HB9.out.trans (hb10.mono HB9.out.size)); have HC10 := Aside0.mk (Kd.C_below HC9.out hb10); have HBT := Aside0.mk hb10; have hbx := pw_cell_below HB10.out HBX.out; have hfz := (HJi.out.keep HB10.out).frozen; clear hb10) | (go_at_call 47; (with_reducible refine (hclosed A9 c9 _ HC10.out Hc9.out).mono ?_); rintro e w' ⟨rfl, ⟨nd1, rfl⟩⟩) | (go_at_call 48; (with_reducible refine (hsnake A9 c9 _ (Kd.C_drewN HC10.out _) Hc9.out).mono ?_); rintro e w' ⟨rfl, ⟨nd2, rfl⟩⟩))
              go_roundw
              case rel => exact ⟨t + 1, by rw [w64 (x := (t : Int) + 1) (by omega) (by have := Hi.out; have := HN.out; omega)]; rfl, ⟨by have := Hi.out; omega⟩, ⟨⟨sti, HF2.out, HJi.out.keep (pw_below_drewN HB10.out _)⟩⟩, ⟨HK.out.below (pw_below_drewN HB10.out _)⟩, ⟨below_then HB.out HLe.out (pw_below_drewN HB10.out _)⟩⟩
              case measure => rw [w64 (x := (t : Int) + 1) (by omega) (by have := Hi.out; have := HN.out; omega)]; have := Hi.out; simp [intOf]; omega
            | true =>
              rw [if_pos rfl] at hc2
              have hsnake : ∀ A9 c9 w9, Kd.C (Kd.int .i64) w9 A9 (l ++ [s]).length (l ++ [s]) → (l ++ [s]).length ≤ c9 → _ := fun A9 c9 w9 h1 h2 => flash_snake.calls 700 A9 c9 (l ++ [s]) true true w9 h1 h2 HR.out
              rw [hls1] at hsnake
              rw [hls1] at hc2
              by_cases cl : sti.length < l.length + 1
              · rw [if_pos cl] at hc2
                injection hc2 with hc2
                subst hc2
                have b1 : decide ((sti.length : Int) < (l.length : Int) + 1) = true := decide_eq_true (by omega)
                have b2 : decide (sti.length < l.length + 1) = true := decide_eq_true cl
                have b3 : decide ((sti.length : Int) < ((l.length + 1 : Nat) : Int)) = true := decide_eq_true (by omega)
                clear cl
                go_wp2_with (first | ((with_reducible refine gate_builtin (b := .append) (xs := #[.tmp 27, .tmp 29]) rfl ?_); at_builtin; refine wpList_append_grows _ rfl (.tmp 27) (.tmp 29) 22 rfl 3 i0 (.int .i64 0) 1 8 Try.underlying22 HI0.out HZ0.out HZ1.out HZ2.out rfl (by decide) (some ad) l.length l.length (nums .i64 l) (by rfl) (fun h => by cases h) (by rw [nums_length, Nat.mul_one]) (C_cells (Kd.C_below HCw.out (by repeat (first | exact Below.refl _ _ | apply below_alloc | apply pw_below_drewN | apply below_drew)))) ⟨_, 0, none⟩ 1 1 [.int .i64 s] (by rfl) (by rfl) (news_one (by first | exact cell_new _ _ _ | (simp [World.cell?]; done))) (by intro u hu; have hu2 := List.mem_singleton.1 hu; subst hu2; rfl) (by omega) (by unfold maxLen; have := HLn.out; omega) (by have := HLn.out; omega) ?_; intro v9 w9 hown9 hgrow9; have hR9 := appended_R (Bb := Bb) hown9 (by have := HLb.out; simp; omega); obtain ⟨A9, c9, rfl, hc9, hC9⟩ := appended hown9; have HR9 := Aside0.mk hR9; clear hR9; rw [hls1] at hC9 hc9; have HC9 := Aside0.mk hC9; have Hc9 := Aside0.mk hc9; have HB9 := Aside0.mk (show Below wr.heap.size wr w9 from pw_below_grown (by repeat (first | exact Below.refl _ _ | apply below_alloc | apply pw_below_drewN | apply below_drew)) none (by simp; try omega) hgrow9 (fun k hk => by cases hk)); clear hown9 hgrow9 hc9 hC9) | (go_at_call 46; (with_reducible refine (hpath A9 c9 w9 HC9.out Hc9.out).mono ?_); rintro e w10 ⟨rfl, hb10⟩; have HB10 := Aside0.mk (HB9.out.trans (hb10.mono HB9.out.size)); have HC10 := Aside0.mk (Kd.C_below HC9.out hb10); have HBT := Aside0.mk hb10; have hbx := pw_cell_below HB10.out HBX.out; have hfz := (HJi.out.keep HB10.out).frozen; clear hb10) | (go_at_call 47; (with_reducible refine (hclosed A9 c9 _ HC10.out Hc9.out).mono ?_); rintro e w' ⟨rfl, ⟨nd1, rfl⟩⟩) | (go_at_call 48; (with_reducible refine (hsnake A9 c9 _ (Kd.C_drewN HC10.out _) Hc9.out).mono ?_); rintro e w' ⟨rfl, ⟨nd2, rfl⟩⟩))
                go_roundw
                case rel =>
                  have hput : ∀ q, _ := fun q => (HJi.out.keep (pw_below_drewN HB10.out q)).put' (A := A9) (c := c9) (l := l ++ [s]) (by rw [hls1]; exact Kd.C_drewN HC10.out _) (by rw [hls1]; exact Hc9.out) (Kd.R_lower (Kd.R_below HR9.out (pw_below_drewN HBT.out q)) (by have := HLe.out; simp; omega)) (by simp)
                  rw [hls1] at hput
                  exact ⟨t + 1, by rw [w64 (x := (t : Int) + 1) (by omega) (by have := Hi.out; have := HN.out; omega)]; rfl, ⟨by have := Hi.out; omega⟩, ⟨⟨l ++ [s], HF2.out, (hput _).1⟩⟩, ⟨(HK.out.below (pw_below_drewN HB10.out _)).then_ (hput _).2 (fun k hk => .inl hk)⟩, ⟨(below_then HB.out HLe.out (pw_below_drewN HB10.out _)).setCell hle _⟩⟩
                case measure => rw [w64 (x := (t : Int) + 1) (by omega) (by have := Hi.out; have := HN.out; omega)]; have := Hi.out; simp [intOf]; omega
              · rw [if_neg cl] at hc2
                have b1 : decide ((sti.length : Int) < (l.length : Int) + 1) = false := decide_eq_false (by omega)
                have b2 : decide (sti.length < l.length + 1) = false := decide_eq_false cl
                have b3 : decide ((sti.length : Int) < ((l.length + 1 : Nat) : Int)) = false := decide_eq_false (by omega)
                by_cases ce : l.length + 1 = sti.length
                · rw [if_pos ce] at hc2
                  obtain ⟨d, hd, hc2⟩ := Option.bind_eq_some_iff.1 hc2
                  have HD := Aside0.mk hd
                  have b4 : (((l.length : Int) + 1) == (sti.length : Int)) = true := beq_iff_eq.2 (by omega)
                  have b5 : ((l.length + 1) == sti.length) = true := beq_iff_eq.2 ce
                  have b6 : (((l.length + 1 : Nat) : Int) == (sti.length : Int)) = true := beq_iff_eq.2 (by omega)
                  have hcmp : ∀ A9 c9 w9, Kd.C (Kd.int .i64) w9 A9 (l ++ [s]).length (l ++ [s]) → (l ++ [s]).length ≤ c9 → Kd.C (Kd.int .i64) w9 Ab sti.length sti → _ := fun A9 c9 w9 h1 h2 h3 => slices_Compare_int_int.calls 700 A9 c9 (l ++ [s]) Ab cb sti d w9 h1 h2 h3 HBc.out HD.out
                  rw [hls1] at hcmp
                  clear cl ce hd
                  by_cases cd : d < 0
                  · rw [if_pos cd] at hc2
                    injection hc2 with hc2
                    subst hc2
                    have b7 : decide (d < 0) = true := decide_eq_true cd
                    clear cd
                    go_wp2_with (first | ((with_reducible refine gate_builtin (b := .append) (xs := #[.tmp 27, .tmp 29]) rfl ?_); at_builtin; refine wpList_append_grows _ rfl (.tmp 27) (.tmp 29) 22 rfl 3 i0 (.int .i64 0) 1 8 Try.underlying22 HI0.out HZ0.out HZ1.out HZ2.out rfl (by decide) (some ad) l.length l.length (nums .i64 l) (by rfl) (fun h => by cases h) (by rw [nums_length, Nat.mul_one]) (C_cells (Kd.C_below HCw.out (by repeat (first | exact Below.refl _ _ | apply below_alloc | apply pw_below_drewN | apply below_drew)))) ⟨_, 0, none⟩ 1 1 [.int .i64 s] (by rfl) (by rfl) (news_one (by first | exact cell_new _ _ _ | (simp [World.cell?]; done))) (by intro u hu; have hu2 := List.mem_singleton.1 hu; subst hu2; rfl) (by omega) (by unfold maxLen; have := HLn.out; omega) (by have := HLn.out; omega) ?_; intro v9 w9 hown9 hgrow9; have hR9 := appended_R (Bb := Bb) hown9 (by have := HLb.out; simp; omega); obtain ⟨A9, c9, rfl, hc9, hC9⟩ := appended hown9; have HR9 := Aside0.mk hR9; clear hR9; rw [hls1] at hC9 hc9; have HC9 := Aside0.mk hC9; have Hc9 := Aside0.mk hc9; have HB9 := Aside0.mk (show Below wr.heap.size wr w9 from pw_below_grown (by repeat (first | exact Below.refl _ _ | apply below_alloc | apply pw_below_drewN | apply below_drew)) none (by simp; try omega) hgrow9 (fun k hk => by cases hk)); clear hown9 hgrow9 hc9 hC9) | (go_at_call 46; (with_reducible refine (hpath A9 c9 w9 HC9.out Hc9.out).mono ?_); rintro e w10 ⟨rfl, hb10⟩; have HB10 := Aside0.mk (HB9.out.trans (hb10.mono HB9.out.size)); have HC10 := Aside0.mk (Kd.C_below HC9.out hb10); have HBT := Aside0.mk hb10; have hbx := pw_cell_below HB10.out HBX.out; have hfz := (HJi.out.keep HB10.out).frozen; clear hb10) | (go_at_call 47; (with_reducible refine (hclosed A9 c9 _ HC10.out Hc9.out).mono ?_); rintro e w' ⟨rfl, ⟨nd1, rfl⟩⟩) | (go_at_call 48; (with_reducible refine (hsnake A9 c9 _ (Kd.C_drewN HC10.out _) Hc9.out).mono ?_); rintro e w' ⟨rfl, ⟨nd2, rfl⟩⟩) | (go_at_call 49; (with_reducible refine (hcmp A9 c9 _ (Kd.C_below HC10.out (by repeat (first | exact Below.refl _ _ | apply pw_below_drewN))) Hc9.out (Kd.C_below HBC.out (by repeat (first | exact HB10.out | apply pw_below_drewN)))).mono ?_); rintro e w' ⟨rfl, ⟨nd3, rfl⟩⟩))
                    go_roundw
                    case rel =>
                      have hput : ∀ q, _ := fun q => (HJi.out.keep (pw_below_drewN HB10.out q)).put' (A := A9) (c := c9) (l := l ++ [s]) (by rw [hls1]; exact Kd.C_drewN HC10.out _) (by rw [hls1]; exact Hc9.out) (Kd.R_lower (Kd.R_below HR9.out (pw_below_drewN HBT.out q)) (by have := HLe.out; simp; omega)) (by simp)
                      rw [hls1] at hput
                      exact ⟨t + 1, by rw [w64 (x := (t : Int) + 1) (by omega) (by have := Hi.out; have := HN.out; omega)]; rfl, ⟨by have := Hi.out; omega⟩, ⟨⟨l ++ [s], HF2.out, (hput _).1⟩⟩, ⟨(HK.out.below (pw_below_drewN HB10.out _)).then_ (hput _).2 (fun k hk => .inl hk)⟩, ⟨(below_then HB.out HLe.out (pw_below_drewN HB10.out _)).setCell hle _⟩⟩
                    case measure => rw [w64 (x := (t : Int) + 1) (by omega) (by have := Hi.out; have := HN.out; omega)]; have := Hi.out; simp [intOf]; omega
                  · rw [if_neg cd] at hc2
                    injection hc2 with hc2
                    subst hc2
                    have b7 : decide (d < 0) = false := decide_eq_false cd
                    clear cd
                    go_wp2_with (first | ((with_reducible refine gate_builtin (b := .append) (xs := #[.tmp 27, .tmp 29]) rfl ?_); at_builtin; refine wpList_append_grows _ rfl (.tmp 27) (.tmp 29) 22 rfl 3 i0 (.int .i64 0) 1 8 Try.underlying22 HI0.out HZ0.out HZ1.out HZ2.out rfl (by decide) (some ad) l.length l.length (nums .i64 l) (by rfl) (fun h => by cases h) (by rw [nums_length, Nat.mul_one]) (C_cells (Kd.C_below HCw.out (by repeat (first | exact Below.refl _ _ | apply below_alloc | apply pw_below_drewN | apply below_drew)))) ⟨_, 0, none⟩ 1 1 [.int .i64 s] (by rfl) (by rfl) (news_one (by first | exact cell_new _ _ _ | (simp [World.cell?]; done))) (by intro u hu; have hu2 := List.mem_singleton.1 hu; subst hu2; rfl) (by omega) (by unfold maxLen; have := HLn.out; omega) (by have := HLn.out; omega) ?_; intro v9 w9 hown9 hgrow9; have hR9 := appended_R (Bb := Bb) hown9 (by have := HLb.out; simp; omega); obtain ⟨A9, c9, rfl, hc9, hC9⟩ := appended hown9; have HR9 := Aside0.mk hR9; clear hR9; rw [hls1] at hC9 hc9; have HC9 := Aside0.mk hC9; have Hc9 := Aside0.mk hc9; have HB9 := Aside0.mk (show Below wr.heap.size wr w9 from pw_below_grown (by repeat (first | exact Below.refl _ _ | apply below_alloc | apply pw_below_drewN | apply below_drew)) none (by simp; try omega) hgrow9 (fun k hk => by cases hk)); clear hown9 hgrow9 hc9 hC9) | (go_at_call 46; (with_reducible refine (hpath A9 c9 w9 HC9.out Hc9.out).mono ?_); rintro e w10 ⟨rfl, hb10⟩; have HB10 := Aside0.mk (HB9.out.trans (hb10.mono HB9.out.size)); have HC10 := Aside0.mk (Kd.C_below HC9.out hb10); have HBT := Aside0.mk hb10; have hbx := pw_cell_below HB10.out HBX.out; have hfz := (HJi.out.keep HB10.out).frozen; clear hb10) | (go_at_call 47; (with_reducible refine (hclosed A9 c9 _ HC10.out Hc9.out).mono ?_); rintro e w' ⟨rfl, ⟨nd1, rfl⟩⟩) | (go_at_call 48; (with_reducible refine (hsnake A9 c9 _ (Kd.C_drewN HC10.out _) Hc9.out).mono ?_); rintro e w' ⟨rfl, ⟨nd2, rfl⟩⟩) | (go_at_call 49; (with_reducible refine (hcmp A9 c9 _ (Kd.C_below HC10.out (by repeat (first | exact Below.refl _ _ | apply pw_below_drewN))) Hc9.out (Kd.C_below HBC.out (by repeat (first | exact HB10.out | apply pw_below_drewN)))).mono ?_); rintro e w' ⟨rfl, ⟨nd3, rfl⟩⟩))
                    go_roundw
                    case rel => exact ⟨t + 1, by rw [w64 (x := (t : Int) + 1) (by omega) (by have := Hi.out; have := HN.out; omega)]; rfl, ⟨by have := Hi.out; omega⟩, ⟨⟨sti, HF2.out, HJi.out.keep (pw_below_drewN HB10.out _)⟩⟩, ⟨HK.out.below (pw_below_drewN HB10.out _)⟩, ⟨below_then HB.out HLe.out (pw_below_drewN HB10.out _)⟩⟩
                    case measure => rw [w64 (x := (t : Int) + 1) (by omega) (by have := Hi.out; have := HN.out; omega)]; have := Hi.out; simp [intOf]; omega
                · rw [if_neg ce] at hc2
                  injection hc2 with hc2
                  subst hc2
                  have b4 : (((l.length : Int) + 1) == (sti.length : Int)) = false := beq_eq_false_iff_ne.2 (by omega)
                  have b5 : ((l.length + 1) == sti.length) = false := beq_eq_false_iff_ne.2 ce
                  have b6 : (((l.length + 1 : Nat) : Int) == (sti.length : Int)) = false := beq_eq_false_iff_ne.2 (by omega)
                  clear cl ce
                  go_wp2_with (first | ((with_reducible refine gate_builtin (b := .append) (xs := #[.tmp 27, .tmp 29]) rfl ?_); at_builtin; refine wpList_append_grows _ rfl (.tmp 27) (.tmp 29) 22 rfl 3 i0 (.int .i64 0) 1 8 Try.underlying22 HI0.out HZ0.out HZ1.out HZ2.out rfl (by decide) (some ad) l.length l.length (nums .i64 l) (by rfl) (fun h => by cases h) (by rw [nums_length, Nat.mul_one]) (C_cells (Kd.C_below HCw.out (by repeat (first | exact Below.refl _ _ | apply below_alloc | apply pw_below_drewN | apply below_drew)))) ⟨_, 0, none⟩ 1 1 [.int .i64 s] (by rfl) (by rfl) (news_one (by first | exact cell_new _ _ _ | (simp [World.cell?]; done))) (by intro u hu; have hu2 := List.mem_singleton.1 hu; subst hu2; rfl) (by omega) (by unfold maxLen; have := HLn.out; omega) (by have := HLn.out; omega) ?_; intro v9 w9 hown9 hgrow9; have hR9 := appended_R (Bb := Bb) hown9 (by have := HLb.out; simp; omega); obtain ⟨A9, c9, rfl, hc9, hC9⟩ := appended hown9; have HR9 := Aside0.mk hR9; clear hR9; rw [hls1] at hC9 hc9; have HC9 := Aside0.mk hC9; have Hc9 := Aside0.mk hc9; have HB9 := Aside0.mk (show Below wr.heap.size wr w9 from pw_below_grown (by repeat (first | exact Below.refl _ _ | apply below_alloc | apply pw_below_drewN | apply below_drew)) none (by simp; try omega) hgrow9 (fun k hk => by cases hk)); clear hown9 hgrow9 hc9 hC9) | (go_at_call 46; (with_reducible refine (hpath A9 c9 w9 HC9.out Hc9.out).mono ?_); rintro e w10 ⟨rfl, hb10⟩; have HB10 := Aside0.mk (HB9.out.trans (hb10.mono HB9.out.size)); have HC10 := Aside0.mk (Kd.C_below HC9.out hb10); have HBT := Aside0.mk hb10; have hbx := pw_cell_below HB10.out HBX.out; have hfz := (HJi.out.keep HB10.out).frozen; clear hb10) | (go_at_call 47; (with_reducible refine (hclosed A9 c9 _ HC10.out Hc9.out).mono ?_); rintro e w' ⟨rfl, ⟨nd1, rfl⟩⟩) | (go_at_call 48; (with_reducible refine (hsnake A9 c9 _ (Kd.C_drewN HC10.out _) Hc9.out).mono ?_); rintro e w' ⟨rfl, ⟨nd2, rfl⟩⟩))
                  go_roundw
                  case rel => exact ⟨t + 1, by rw [w64 (x := (t : Int) + 1) (by omega) (by have := Hi.out; have := HN.out; omega)]; rfl, ⟨by have := Hi.out; omega⟩, ⟨⟨sti, HF2.out, HJi.out.keep (pw_below_drewN HB10.out _)⟩⟩, ⟨HK.out.below (pw_below_drewN HB10.out _)⟩, ⟨below_then HB.out HLe.out (pw_below_drewN HB10.out _)⟩⟩
                  case measure => rw [w64 (x := (t : Int) + 1) (by omega) (by have := Hi.out; have := HN.out; omega)]; have := Hi.out; simp [intOf]; omega
      · have c1b : decide ((t : Int) < (n : Int)) = false := decide_eq_false ct
        have c1c : decide (t < n) = false := decide_eq_false (by omega)
        have hJf : CoilAt n B Bn Bb st' wr := by
          obtain ⟨sti, hf, hJi⟩ := HS.out
          rw [List.drop_of_length_le (by rw [List.length_range]; omega)] at hf
          have : sti = st' := by simpa using hf
          rw [← this]; exact hJi
        have HJf := Aside0.mk hJf
        clear ct HS hJf
        go_wp2
        go_end0
        exact ⟨rfl, HJf.out, HK.out, HB.out⟩
end
end Go.Proofs.Ytnakkdaeehglnaa.P

set_option linter.unusedSimpArgs false
set_option linter.unusedVariables false
namespace Go.Proofs.Ytnakkdaeehglnaa.P
open Go.Lib Go.RowKit Go.Proofs.YtnakkdaeehglnaaW.PrintWords Go.Proofs.YtnakkdaeehglnaaW.PrintLast Go.Proofs.YtnakkdaeehglnaaW.PrintMore Go.Proofs.Ytnakkdaeehglnaa.Kit
attribute [local go_sem] max2_int min2_int max_two min_two max_three min_three max_four min_four

section
set_option maxHeartbeats 4000000
set_option maxRecDepth 100000
theorem eq_nil (w : World) (a : Option Addr) (n c : Nat) : (binOp .eql 22 (.slice a n c) (.slice none 0 0)).run Try.prog w = .ok (.bool a.isNone) w := run_eql_slice_nil w 22 3 a n c 0 0 Try.underlying22
/-- What Coil finds. -/
def coil (n : Nat) : Option (List Int) := srch (coilStep n) n 40 ([] : List Int) [0] 0
def flash_Coil.f (n : Int) : Option (List Int × Int) :=
  if 1 ≤ n ∧ n ≤ 5 then (coil n.toNat).bind fun l => if 0 < l.length then some (l, 0) else some ([], 10) else some ([], 2)
theorem flash_Coil.calls (a0 : Int) (r1 : List Int) (r2 : Int) (w : World) (h : flash_Coil.f a0 = some (r1, r2)) :
    Calls Try.prog 18 #[.int .i64 a0] w fun e w' => ∃ v0_ : Value, e = .returned (.tuple #[v0_, .int .i64 r2]) ∧ Kd.R (Kd.int .i64) 3 w' w.heap.size (fun _ => True) v0_ r1 ∧ Below w.heap.size w w' := by
  have HB := Aside0.mk (Below.refl w.heap.size w)
  unfold flash_Coil.f at h
  split at h
  case isFalse hn =>
    injection h with h
    injection h with h1 h2
    subst h1 h2
    by_cases hn2 : 1 ≤ a0 ∧ a0 ≤ 12
    · have S1 : flash_sized.f a0 = some true := by unfold flash_sized.f; rw [if_pos (by omega), decide_eq_true (by omega)]
      have S1' := Aside0.mk S1
      have b1 : decide (5 < a0) = true := decide_eq_true (by omega)
      have HB1 := Aside0.mk (below_alloc HB.out (Obj.cells #[Value.int IntKind.i64 a0] 3))
      clear S1 hn hn2
      go_enter Try.func18, Try.ntmps18
      go_wp2_with (go_at_call 41; (with_reducible refine (flash_sized.calls a0 true _ S1'.out).mono ?_); rintro e w' ⟨rfl, ⟨nd, rfl⟩⟩)
      go_ret2
      exact ⟨_, rfl, Kd.R_nil _ _ _ _ _, pw_below_drewN HB1.out _⟩
    · have S1 : flash_sized.f a0 = some false := by
        unfold flash_sized.f
        by_cases h1 : a0 ≥ 1
        · rw [if_pos h1, decide_eq_false (by omega)]
        · rw [if_neg h1]
      have S1' := Aside0.mk S1
      have HB1 := Aside0.mk (below_alloc HB.out (Obj.cells #[Value.int IntKind.i64 a0] 3))
      clear S1 hn hn2
      go_enter Try.func18, Try.ntmps18
      go_wp2_with (go_at_call 41; (with_reducible refine (flash_sized.calls a0 false _ S1'.out).mono ?_); rintro e w' ⟨rfl, ⟨nd, rfl⟩⟩)
      go_ret2
      exact ⟨_, rfl, Kd.R_nil _ _ _ _ _, pw_below_drewN HB1.out _⟩
  case isTrue hn =>
    obtain ⟨l, hl, hh⟩ := Option.bind_eq_some_iff.1 h
    clear h
    obtain ⟨n, rfl⟩ : ∃ n : Nat, a0 = n := ⟨a0.toNat, by omega⟩
    rw [Int.toNat_natCast] at hl
    have S1 : flash_sized.f n = some true := by unfold flash_sized.f; rw [if_pos (by omega), decide_eq_true (by omega)]
    have S1' := Aside0.mk S1
    have b1 : decide (5 < (n : Int)) = false := decide_eq_false (by omega)
    have HN := Aside0.mk (show 1 ≤ n ∧ n ≤ 12 by omega)
    have HL := Aside0.mk hl
    have HH := Aside0.mk hh
    clear S1 hn hl hh
    have hsrch : ∀ nd, Calls Try.prog 42 #[.int .i64 (n : Int), .func (.func 45) #[] #[.pointer (some ⟨w.heap.size, 0, none⟩), .pointer (some ⟨w.heap.size + 1, 0, none⟩)]] (((w.alloc (Obj.cells #[Value.int IntKind.i64 (n : Int)] 3)).drewN nd).alloc (Obj.cells #[Value.slice none 0 0] 22)) fun e w' => e = .returned (.tuple #[]) ∧ CoilAt n w.heap.size w.heap.size (w.heap.size + 1) l w' ∧ Below w.heap.size w w' := by
      intro nd
      have hsz : ((w.alloc (Obj.cells #[Value.int IntKind.i64 (n : Int)] 3)).drewN nd).heap.size = w.heap.size + 1 := by simp
      have hb1 : Below w.heap.size w ((w.alloc (Obj.cells #[Value.int IntKind.i64 (n : Int)] 3)).drewN nd) := pw_below_drewN (below_alloc HB.out _) nd
      have k1 : ((w.alloc (Obj.cells #[Value.int IntKind.i64 (n : Int)] 3)).drewN nd).cell? ⟨w.heap.size, 0, none⟩ = some (.int .i64 (n : Int)) := cell_new w _ _
      generalize (w.alloc (Obj.cells #[Value.int IntKind.i64 (n : Int)] 3)).drewN nd = W1 at hsz hb1 k1
      have hbl : Below w.heap.size w (W1.alloc (Obj.cells #[Value.slice none 0 0] 22)) := hb1.alloc hb1.size _
      have hb2 : Below W1.heap.size W1 (W1.alloc (Obj.cells #[Value.slice none 0 0] 22)) := below_alloc (Below.refl _ _) _
      have k2 := heap_alloc_new W1 (Obj.cells #[Value.slice none 0 0] 22)
      have k3 := cell_new W1 (Value.slice none 0 0) 22
      rw [hsz] at k2 k3
      refine (search_calls (coil_visits n w.heap.size w.heap.size (w.heap.size + 1) HN.out (by omega)) HN.out 40 ([] : List Int) l _ HL.out ⟨⟨none, 0, k2, ⟨rfl, by decide, fun h => absurd h (by decide)⟩, Nat.le_refl _⟩, pw_cell_below hb2 k1, by omega, _, k3, Kd.R_nil _ _ _ _ _, fun _ => rfl⟩).mono ?_
      rintro e w' ⟨he, h1, h2, h3⟩
      exact ⟨he, h1, hbl.trans h3⟩
    have HSr := Aside0.mk hsrch
    clear hsrch
    have heq := eq_nil
    have hsz0 : ∀ nd o, ((w.alloc o).drewN nd).heap.size = w.heap.size + 1 := fun nd o => by simp
    by_cases hll : 0 < l.length
    · have h := HH.out
      rw [if_pos hll] at h
      injection h with h
      injection h with h1 h2
      subst h1 h2
      have HLL := Aside0.mk hll
      clear hll HH HL
      go_enter Try.func18, Try.ntmps18
      go_wp2_with (first | (go_at_call 41; (with_reducible refine (flash_sized.calls n true _ S1'.out).mono ?_); rintro e w' ⟨rfl, ⟨nd, rfl⟩⟩) | (go_at_call 42; (refine (HSr.out _).mono ?_); rintro e w1 ⟨rfl, hJ, hb⟩; obtain ⟨-, -, -, v, hcell, hR, -⟩ := hJ; obtain ⟨A, c, rfl, hcc, hC⟩ := Kd.R_reads hR; obtain ⟨ad, rfl, -⟩ := Kd.at_int hC 0 (by omega) (by have := HLL.out; omega); have HR := Aside0.mk hR; have HB1 := Aside0.mk hb; clear hR hC hcc hb; dsimp only))
      go_ret2
      exact ⟨_, rfl, Kd.R_mono HR.out (fun _ _ => trivial), HB1.out⟩
    · have h := HH.out
      rw [if_neg hll] at h
      injection h with h
      injection h with h1 h2
      subst h1 h2
      have HLL := Aside0.mk (show l = [] from List.eq_nil_of_length_eq_zero (by omega))
      clear hll HH HL
      go_enter Try.func18, Try.ntmps18
      go_wp2_with (first | (go_at_call 41; (with_reducible refine (flash_sized.calls n true _ S1'.out).mono ?_); rintro e w' ⟨rfl, ⟨nd, rfl⟩⟩) | (go_at_call 42; (refine (HSr.out _).mono ?_); rintro e w1 ⟨rfl, hJ, hb⟩; obtain ⟨-, -, -, v, hcell, -, hv⟩ := hJ; have hv := hv HLL.out; subst hv; have HB1 := Aside0.mk hb; clear hb; dsimp only))
      go_ret2
      exact ⟨_, rfl, Kd.R_nil _ _ _ _ _, HB1.out⟩
end
end Go.Proofs.Ytnakkdaeehglnaa.P

namespace Go.Proofs.Ytnakkdaeehglnaa.P
open Go.RowKit Go.Proofs.YtnakkdaeehglnaaW.PrintWords Go.Proofs.YtnakkdaeehglnaaW.PrintLast Go.Proofs.YtnakkdaeehglnaaW.PrintMore
attribute [local go_sem] max2_int min2_int max_two min_two max_three min_three max_four min_four   -- for this text's walks alone
set_option linter.unusedVariables false
set_option linter.unusedSimpArgs false

/-! ### neonwrightlaw04_same: function 19 -/
def neonwrightlaw04_same.l0 : Nat → List Int → List Int → Int → Option (Bool)
  | 0, _, _, _ => none
  | k + 1, x0, x1, x5 => if x5 < (x0.length : Int) then (if 0 ≤ x5 then (if x5 < (x1.length : Int) then (if (rd x0 x5) = (rd x1 x5) then (neonwrightlaw04_same.l0 k x0 x1 (wrap64 (x5 + 1))) else (some false)) else (none)) else (none)) else (some true)
def neonwrightlaw04_same.f (k : Nat) (l0 : List Int) (l1 : List Int) : Option (Bool) := if (l0.length : Int) = (l1.length : Int) then (neonwrightlaw04_same.l0 k l0 l1 0) else (some false)
theorem neonwrightlaw04_same.mono_l : ∀ k, (∀ y0 y1 y2, LeO (neonwrightlaw04_same.l0 k y0 y1 y2) (neonwrightlaw04_same.l0 (k + 1) y0 y1 y2))
  | 0 => fun _ _ _ r h => by simp [neonwrightlaw04_same.l0] at h
  | k + 1 => by
    have ih0 := neonwrightlaw04_same.mono_l k
    · intro y0 y1 y2
      unfold neonwrightlaw04_same.l0
      repeat' first
      | (with_reducible exact ih0 _ _ _)
      | (with_reducible exact LeO.refl _)
      | (with_reducible exact LeO.none _)
      | (with_reducible refine LeO.ite ?_ ?_)
      | (with_reducible refine LeO.bind ?_ (fun _ => ?_))
      | exact ih0 _ _ _
      | exact LeO.none _
      | refine LeO.ite ?_ ?_
      | refine LeO.bind ?_ (fun _ => ?_)
theorem neonwrightlaw04_same.mono : ∀ a0 a1 k, LeO (neonwrightlaw04_same.f k a0 a1) (neonwrightlaw04_same.f (k + 1) a0 a1) := by
  intro a0 a1 k
  have ih0 := neonwrightlaw04_same.mono_l k
  unfold neonwrightlaw04_same.f
  repeat' first
      | (with_reducible exact ih0 _ _ _)
      | (with_reducible exact LeO.refl _)
      | (with_reducible exact LeO.none _)
      | (with_reducible refine LeO.ite ?_ ?_)
      | (with_reducible refine LeO.bind ?_ (fun _ => ?_))
      | exact ih0 _ _ _
      | exact LeO.none _
      | refine LeO.ite ?_ ?_
      | refine LeO.bind ?_ (fun _ => ?_)
set_option maxHeartbeats 8000000 in
set_option maxRecDepth 100000 in
theorem neonwrightlaw04_same.calls (k : Nat) (A0 : Option Addr) (c0 : Nat) (l0 : List Int) (A1 : Option Addr) (c1 : Nat) (l1 : List Int) (r : Bool) (w : World) (hr0 : Kd.C (Kd.int .i64) w A0 l0.length l0) (hc0 : l0.length ≤ c0) (hr1 : Kd.C (Kd.int .i64) w A1 l1.length l1) (hc1 : l1.length ≤ c1) (h : neonwrightlaw04_same.f k l0 l1 = some r) :
    Calls Try.prog 19 #[.slice A0 l0.length c0, .slice A1 l1.length c1] w fun e w' => e = .returned (.bool r) ∧ Drawn0 w w' := by
  have HR0 := Aside0.mk hr0
  have HC0 := Aside0.mk hc0
  clear hr0 hc0
  have HR1 := Aside0.mk hr1
  have HC1 := Aside0.mk hc1
  clear hr1 hc1
  have H : (if (l0.length : Int) = (l1.length : Int) then (neonwrightlaw04_same.l0 k l0 l1 0) else (some false)) = some r := h
  clear h
  by_cases c3 : (l0.length : Int) = (l1.length : Int)
  · rw [if_pos c3] at H
    have c3b0 : ((l0.length : Int) == (l1.length : Int)) = true := beq_iff_eq.mpr c3
    have c3b1 : ((l0.length : Int) != (l1.length : Int)) = false := bne_eq_false_iff_eq.mpr c3
    have c3b2 : (l0.length == l1.length) = true := by first | simpa using c3 | (simp at c3 ⊢; omega)
    clear c3
    have H' := Aside0.mk H
    clear H
    go_enter Try.func19, Try.ntmps19
    go_wp2
    repeat (go_quiet (fail); try go_wp2)
    go_loopg [5] k (fun kq v5 w' => ∃ (x5_1 : Int), v5 = .int .i64 x5_1 ∧ Aside0 (neonwrightlaw04_same.l0 kq l0 l1 x5_1 = some r) ∧ Aside0 (kq ≤ k) ∧ Drawn0 w w')
    case atStart => exact ⟨(0), (by first | rfl | (simp; done) | (simp [*]; done)), H', ⟨Nat.le_refl _⟩, by repeat (first | exact Drawn0.refl _ | apply Drawn0.step)⟩
    case round =>
      clear H'
      try clear c1
      try clear p2
      try clear c3
      try clear c3b0
      try clear c3b1
      try clear c3b2
      obtain ⟨x5_1, rfl, HA, HK1, ⟨m1, rfl⟩⟩ := hrel
      cases gk with
      | zero => exact absurd HA.out (by simp [neonwrightlaw04_same.l0])
      | succ k1 =>
        have H := HA.out
        clear HA
        simp only [neonwrightlaw04_same.l0] at H
        by_cases c4 : x5_1 < (l0.length : Int)
        · rw [if_pos c4] at H
          have c4b0 : decide (x5_1 < (l0.length : Int)) = true := decide_eq_true c4
          clear c4
          by_cases c5 : 0 ≤ x5_1
          · rw [if_pos c5] at H
            have c5b0 : decide (0 ≤ x5_1) = true := decide_eq_true c5
            clear c5
            by_cases c6 : x5_1 < (l1.length : Int)
            · rw [if_pos c6] at H
              have c6b0 : decide (x5_1 < (l1.length : Int)) = true := decide_eq_true c6
              clear c6
              by_cases c7 : (rd l0 x5_1) = (rd l1 x5_1)
              · rw [if_pos c7] at H
                have c7b0 : ((rd l0 x5_1) == (rd l1 x5_1)) = true := beq_iff_eq.mpr c7
                have c7b1 : ((rd l0 x5_1) != (rd l1 x5_1)) = false := bne_eq_false_iff_eq.mpr c7
                clear c7
                have H' := Aside0.mk H
                clear H
                have p126 : 0 ≤ (x5_1 : Int) := of_decide_eq_true (by first | (with_reducible assumption) | assumption)
                have q126 : x5_1 < (l0.length : Int) := of_decide_eq_true (by first | (with_reducible assumption) | assumption)
                obtain ⟨ad126, e126, hx126_0⟩ := Kd.at_int HR0.out x5_1 p126 q126
                cases e126
                replace p126 := eq_true p126
                replace q126 := eq_true q126
                have p127 : 0 ≤ (x5_1 : Int) := of_decide_eq_true (by first | (with_reducible assumption) | assumption)
                have q127 : x5_1 < (l1.length : Int) := of_decide_eq_true (by first | (with_reducible assumption) | assumption)
                obtain ⟨ad127, e127, hx127_0⟩ := Kd.at_int HR1.out x5_1 p127 q127
                cases e127
                replace p127 := eq_true p127
                replace q127 := eq_true q127
                go_wp2
                repeat (go_quiet (fail); try go_wp2)
                go_roundg k1
                case measure => have := HK1.out; omega
                case rel => exact ⟨(wrap64 (x5_1 + 1)), (by first | rfl | (simp; done) | (simp [*]; done)), H', ⟨by have := HK1.out; omega⟩, by repeat (first | exact Drawn0.refl _ | apply Drawn0.step)⟩
              · rw [if_neg c7] at H
                have c7b0 : ((rd l0 x5_1) == (rd l1 x5_1)) = false := beq_eq_false_iff_ne.mpr c7
                have c7b1 : ((rd l0 x5_1) != (rd l1 x5_1)) = true := bne_iff_ne.mpr c7
                obtain rfl := Option.some.inj H
                have p126 : 0 ≤ (x5_1 : Int) := of_decide_eq_true (by first | (with_reducible assumption) | assumption)
                have q126 : x5_1 < (l0.length : Int) := of_decide_eq_true (by first | (with_reducible assumption) | assumption)
                obtain ⟨ad126, e126, hx126_0⟩ := Kd.at_int HR0.out x5_1 p126 q126
                cases e126
                replace p126 := eq_true p126
                replace q126 := eq_true q126
                have p127 : 0 ≤ (x5_1 : Int) := of_decide_eq_true (by first | (with_reducible assumption) | assumption)
                have q127 : x5_1 < (l1.length : Int) := of_decide_eq_true (by first | (with_reducible assumption) | assumption)
                obtain ⟨ad127, e127, hx127_0⟩ := Kd.at_int HR1.out x5_1 p127 q127
                cases e127
                replace p127 := eq_true p127
                replace q127 := eq_true q127
                go_wp2
                repeat (go_quiet (fail); try go_wp2)
                go_ret
                exact ⟨by first | rfl | (simp; done) | (simp [*]; done), by repeat (first | exact Drawn0.refl _ | apply Drawn0.step)⟩
            · rw [if_neg c6] at H
              exact absurd H (by simp)
          · rw [if_neg c5] at H
            exact absurd H (by simp)
        · rw [if_neg c4] at H
          have c4b0 : decide (x5_1 < (l0.length : Int)) = false := decide_eq_false c4
          clear c4
          obtain rfl := Option.some.inj H
          go_wp2
          repeat (go_quiet (fail); try go_wp2)
          go_ret
          exact ⟨by first | rfl | (simp; done) | (simp [*]; done), by repeat (first | exact Drawn0.refl _ | apply Drawn0.step)⟩
  · rw [if_neg c3] at H
    have c3b0 : ((l0.length : Int) == (l1.length : Int)) = false := beq_eq_false_iff_ne.mpr c3
    have c3b1 : ((l0.length : Int) != (l1.length : Int)) = true := bne_iff_ne.mpr c3
    have c3b2 : (l0.length == l1.length) = false := by first | simpa using c3 | (simp at c3 ⊢; omega)
    obtain rfl := Option.some.inj H
    go_enter Try.func19, Try.ntmps19
    go_wp2
    repeat (go_quiet (fail); try go_wp2)
    go_ret
    exact ⟨by first | rfl | (simp; done) | (simp [*]; done), by repeat (first | exact Drawn0.refl _ | apply Drawn0.step)⟩

end Go.Proofs.Ytnakkdaeehglnaa.P
