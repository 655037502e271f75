/- Texts of this claim, merged by a program (shake.py): what the last theorem reaches of QRep, QShow, QWhere, QWout, Pf93, QMin, QCan, Pf61. -/
import Derived.Shelf.SlicesE.DeleteFunc
import Derived.Deep.RegionHeld3
import Derived.Test.YtelfalicickelaaKGR12
import Derived.Test.YtelfalicickelaaKGR3
import Derived.Test.YtelfalicickelaaKGR10
set_option linter.unusedSimpArgs false
set_option linter.unusedVariables false
namespace Go.Proofs.Ytelfalicickelaa.P
open Go.Lib Go.RowKit Go.Proofs.YtelfalicickelaaW.PrintWords Go.Proofs.YtelfalicickelaaW.PrintLast Go.Proofs.YtelfalicickelaaW.PrintMore Go.Proofs.Ytelfalicickelaa.Kit
theorem pow_lt64 {n : Nat} (h : n ≤ 63) : 2 ^ n < 18446744073709551616 := by
  have : 2 ^ n ≤ 2 ^ 63 := Nat.pow_le_pow_right (by decide) h
  have h2 : (2 : Nat) ^ 63 < 18446744073709551616 := by decide
  omega
theorem shru (x i : Nat) (hi : i ≤ 64) : shr .u64 (x : Int) (i : Int) = ((x / 2 ^ i : Nat) : Int) := by
  unfold shr
  have hb : IntKind.u64.bits = 64 := rfl
  rw [hb, Int.toNat_natCast, Nat.min_eq_left hi]
  simp
theorem shlu1 (i : Nat) (hi : i ≤ 63) : shl .u64 1 (i : Int) = ((2 ^ i : Nat) : Int) := by
  unfold shl
  have hb : IntKind.u64.bits = 64 := rfl
  rw [hb, Int.toNat_natCast, Nat.min_eq_left (by omega), Int.one_mul]
  have h2 : (2 : Int) ^ i = ((2 ^ i : Nat) : Int) := by simp
  rw [h2, u64w (pow_lt64 hi)]
theorem and_pow (x i : Nat) : x &&& 2 ^ i = if x.testBit i = true then 2 ^ i else 0 := by
  refine Nat.eq_of_testBit_eq fun j => ?_
  rw [Nat.testBit_and, Nat.testBit_two_pow]
  by_cases h : i = j
  · subst h
    cases x.testBit i <;> simp
  · cases x.testBit i <;> simp [h]
theorem div_zero_bits {x i j : Nat} (h : x / 2 ^ i = 0) (hj : i ≤ j) : x.testBit j = false := by
  have : (x / 2 ^ i).testBit (j - i) = x.testBit j := by rw [Nat.testBit_div_two_pow, Nat.sub_add_cancel hj]
  rw [← this, h]
  exact Nat.zero_testBit _
theorem members_l0 (x : Nat) (hx : x < 18446744073709551616) : ∀ (d i k : Nat) (acc : List Int), 64 - i = d → i ≤ 64 → d < k → acc.length ≤ 64 - d →
    gate_members.l0 k (x : Int) acc (i : Int) = some (acc ++ ((List.range' i d).filter fun j => x.testBit j).map fun (j : Nat) => (j : Int)) := by
  intro d
  induction d with
  | zero =>
    intro i k acc hd hi hk _
    obtain ⟨k, rfl⟩ : ∃ j, k = j + 1 := ⟨k - 1, by omega⟩
    have hi64 : i = 64 := by omega
    subst hi64
    simp only [gate_members.l0]
    rw [if_pos (by omega), shru _ _ (Nat.le_refl _), Nat.div_eq_of_lt (by rw [show (2 : Nat) ^ 64 = 18446744073709551616 by decide]; exact hx), if_neg (by decide)]
    simp
  | succ d ih =>
    intro i k acc hd hi hk hacc
    obtain ⟨k, rfl⟩ : ∃ j, k = j + 1 := ⟨k - 1, by omega⟩
    have hw : ∀ _ : Unit, wrap64 ((i : Int) + 1) = ((i + 1 : Nat) : Int) := fun _ => by rw [w64 (by omega) (by omega)]; omega
    simp only [gate_members.l0]
    rw [if_pos (by omega), shru _ _ (by omega)]
    by_cases hz : x / 2 ^ i = 0
    · rw [hz, if_neg (by decide)]
      have : ((List.range' i (d + 1)).filter fun j => x.testBit j) = [] := by
        rw [List.filter_eq_nil_iff]
        intro j hj
        rw [List.mem_range'_1] at hj
        rw [div_zero_bits hz hj.1]
        decide
      rw [this]
      simp
    · rw [if_pos (show ((x / 2 ^ i : Nat) : Int) > 0 from Int.ofNat_lt.2 (Nat.pos_of_ne_zero hz)), shlu1 i (by omega), andu64 _ _ hx (pow_lt64 (by omega)), and_pow, hw ()]
      rw [List.range'_succ, List.filter_cons]
      cases hb : x.testBit i with
      | false =>
        simp only [Bool.false_eq_true, if_false]
        rw [if_pos (by rfl)]
        exact ih (i + 1) k acc (by omega) (by omega) (by omega) (by omega)
      | true =>
        simp only [if_true]
        have hp := Nat.two_pow_pos i
        rw [if_neg (fun e => Nat.ne_of_gt hp (Int.ofNat_eq_zero.1 e)), if_pos (by omega), ih (i + 1) k _ (by omega) (by omega) (by omega) (by simp; omega)]
        simp
def membI (x : Nat) : List Int := (GT.memb x).map fun (j : Nat) => (j : Int)
theorem members_f (x : Nat) (hx : x < 18446744073709551616) (k : Nat) (hk : 64 < k) : gate_members.f k (x : Int) = some (membI x) := by
  unfold gate_members.f membI GT.memb
  have := members_l0 x hx 64 0 k [] (by omega) (by omega) (by omega) (by simp)
  rw [List.range_eq_range']
  simpa using this
theorem bit_one (x v : Nat) : x / 2 ^ v % 2 = (x.testBit v).toNat := by
  rw [Nat.testBit_eq_decide_div_mod_eq]
  rcases Nat.mod_two_eq_zero_or_one (x / 2 ^ v) with e | e <;> simp [e]
theorem reply_step (l : List Bool) (b : Bool) (h : l.length ≤ 62) : Go.bits .or .i64 ((GT.num l : Nat) : Int) (shl .i64 ((b.toNat : Nat) : Int) (l.length : Int)) = ((GT.num (l ++ [b]) : Nat) : Int) := by
  have h1 := GT.num_lt l
  have h2 := pow_le62 h
  have hs : shl .i64 ((b.toNat : Nat) : Int) (l.length : Int) = ((b.toNat * 2 ^ l.length : Nat) : Int) := by
    cases b with
    | true => simpa using shl1n h
    | false => unfold shl; simp; decide
  have h3 : b.toNat * 2 ^ l.length ≤ 2 ^ l.length := by cases b <;> simp
  rw [hs, or64 _ _ (by omega) (by omega), GT.num_append]
  have h4 := Nat.two_pow_add_eq_or_of_lt h1 b.toNat
  rw [Nat.mul_comm (2 ^ l.length), Nat.add_comm] at h4
  rw [h4, Nat.or_comm]
theorem andu1 (x : Nat) (hx : x < 18446744073709551616) : Go.bits .and .u64 (x : Int) 1 = ((x % 2 : Nat) : Int) := by
  have h := andu64 x 1 hx (by decide)
  rw [Nat.and_one_is_mod] at h
  exact h
theorem reply_l0 (ws : List Nat) (h64 : W64 ws) (hl : ws.length ≤ 62) (v : Nat) (hv : v ≤ 63) : ∀ d i k, ws.length - i = d → i ≤ ws.length → d < k →
    gate_reply.l0 k (v : Int) ((GT.num ((ws.take i).map fun w => w.testBit v) : Nat) : Int) (nI ws) ((nI ws).length : Int) (i : Int) = some ((GT.num (ws.map fun w => w.testBit v) : Nat) : Int) := by
  intro d
  induction d with
  | zero =>
    intro i k hd hi hk
    obtain ⟨k, rfl⟩ : ∃ j, k = j + 1 := ⟨k - 1, by omega⟩
    simp only [gate_reply.l0]
    rw [nI_length, if_neg (by omega), List.take_of_length_le (by omega)]
  | succ d ih =>
    intro i k hd hi hk
    obtain ⟨k, rfl⟩ : ∃ j, k = j + 1 := ⟨k - 1, by omega⟩
    have hil : i < ws.length := by omega
    have hw : ∀ _ : Unit, wrap64 ((i : Int) + 1) = ((i + 1 : Nat) : Int) := fun _ => by rw [w64 (by omega) (by omega)]; omega
    simp only [gate_reply.l0]
    rw [nI_length, if_pos (by omega), if_pos (by omega), if_pos (by omega), if_pos (by omega), rd_nI, shru _ _ (by omega)]
    have hg : ws.getD i 0 = ws[i] := by simp [List.getD_eq_getElem?_getD, hil]
    have h6 := h64 i
    have hle : ws.getD i 0 / 2 ^ v ≤ ws.getD i 0 := Nat.div_le_self _ _
    rw [andu1 _ (by omega), bit_one, w64n _ (by cases (ws.getD i 0).testBit v <;> simp), hw ()]
    have hst := reply_step ((ws.take i).map fun w => w.testBit v) ((ws.getD i 0).testBit v) (by rw [List.length_map, List.length_take]; omega)
    rw [List.length_map, List.length_take, Nat.min_eq_left hi] at hst
    rw [hst]
    have he : (ws.take i).map (fun w => w.testBit v) ++ [(ws.getD i 0).testBit v] = (ws.take (i + 1)).map fun w => w.testBit v := by
      rw [List.take_succ_eq_append_getElem hil, List.map_append, hg]
      rfl
    rw [he]
    have := ih (i + 1) k (by omega) (by omega) (by omega)
    rw [nI_length] at this
    exact this
theorem reply_f (ws : List Nat) (h64 : W64 ws) (hl : ws.length ≤ 62) (v : Nat) (hv : v ≤ 63) (k : Nat) (hk : ws.length < k) : gate_reply.f k (nI ws) (v : Int) = some ((GT.num (ws.map fun w => w.testBit v) : Nat) : Int) := by
  unfold gate_reply.f
  have := reply_l0 ws h64 hl v hv ws.length 0 k (by omega) (by omega) hk
  simpa [GT.num] using this
theorem outsW_reply (c : GT.C) (F : Option Nat) (v : Nat) (hv : v < 2 ^ c.n) : GT.num ((GT.outsW c F).map fun w => w.testBit v) = GT.reply c F v := by
  unfold GT.reply GT.outs GT.outsW
  rw [List.map_map]
  congr 1
  refine List.map_congr_left fun o _ => ?_
  show (GT.wline c F o).testBit v = _
  unfold GT.wline
  rw [GT.wd_bit]
  simp [hv]
theorem outsW_W64 {N : Nat} (hN : N ≤ 6) (ls : List S40) (os : List Int) (F : Option Nat) : W64 (GT.outsW (toC N ls os) F) := by
  intro j
  unfold GT.outsW
  by_cases h : j < ((toC N ls os).os.map (GT.wline (toC N ls os) F)).length
  · rw [List.getD_eq_getElem?_getD, List.getElem?_eq_getElem h, List.getElem_map]
    exact wline_lt64 hN _ _ _ _
  · rw [List.getD_eq_getElem?_getD, List.getElem?_eq_none (by omega)]
    decide
end Go.Proofs.Ytelfalicickelaa.P
set_option linter.unusedSimpArgs false
set_option linter.unusedVariables false
namespace Go.Proofs.Ytelfalicickelaa.P
open Go.Lib Go.RowKit Go.Proofs.YtelfalicickelaaW.PrintWords Go.Proofs.YtelfalicickelaaW.PrintLast Go.Proofs.YtelfalicickelaaW.PrintMore Go.Proofs.Ytelfalicickelaa.Kit
def shTo (a b : List Nat) : Nat → Nat
  | 0 => 0
  | i + 1 => shTo a b i ||| (a.getD i 0 ^^^ b.getD i 0)
theorem shTo_bit (a b : List Nat) (v : Nat) : ∀ i, (shTo a b i).testBit v = true ↔ ∃ j, j < i ∧ (a.getD j 0).testBit v ≠ (b.getD j 0).testBit v
  | 0 => by simp [shTo]
  | i + 1 => by
    unfold shTo
    rw [Nat.testBit_or, Nat.testBit_xor, Bool.or_eq_true, shTo_bit a b v i]
    constructor
    · rintro (⟨j, h1, h2⟩ | h)
      · exact ⟨j, by omega, h2⟩
      · exact ⟨i, by omega, by simpa using h⟩
    · rintro ⟨j, h1, h2⟩
      by_cases e : j = i
      · subst e; exact .inr (by simpa using h2)
      · exact .inl ⟨j, by omega, h2⟩
theorem shTo_lt {a b : List Nat} (ha : W64 a) (hb : W64 b) : ∀ i, shTo a b i < 18446744073709551616
  | 0 => by show 0 < 18446744073709551616; decide
  | i + 1 => by
    unfold shTo
    refine or_lt64 (shTo_lt ha hb i) ?_
    have := Nat.xor_lt_two_pow (n := 64) (by simpa using ha i) (by simpa using hb i)
    simpa using this
theorem outsW_length (c : GT.C) (F : Option Nat) : (GT.outsW c F).length = c.os.length := by simp [GT.outsW]
theorem outsW_get (c : GT.C) (F : Option Nat) {j : Nat} (hj : j < c.os.length) : (GT.outsW c F).getD j 0 = GT.wline c F c.os[j] := by simp [GT.outsW, List.getD_eq_getElem?_getD, hj]
theorem shTo_shows (c : GT.C) (f : Nat) : shTo (GT.outsW c none) (GT.outsW c (some f)) c.os.length = GT.shows c f := by
  refine GT.nat_ext fun v => ?_
  unfold GT.shows
  rw [GT.wd_bit, Bool.eq_iff_iff, shTo_bit, Bool.and_eq_true, decide_eq_true_eq, decide_eq_true_eq]
  constructor
  · rintro ⟨j, hj, hne⟩
    rw [outsW_get _ _ hj, outsW_get _ _ hj] at hne
    unfold GT.wline at hne
    rw [GT.wd_bit, GT.wd_bit] at hne
    by_cases hv : v < 2 ^ c.n
    · refine ⟨hv, fun e => hne ?_⟩
      have := (GT.reply_ne c (some f) none v).1 e c.os[j] (List.getElem_mem hj)
      rw [this]
    · exact absurd (by simp [hv]) hne
  · rintro ⟨hv, hne⟩
    apply Classical.byContradiction
    intro hno
    apply hne
    rw [GT.reply_ne]
    intro o ho
    obtain ⟨j, hj, rfl⟩ := List.mem_iff_getElem.1 ho
    apply Classical.byContradiction
    intro hd
    apply hno
    refine ⟨j, hj, ?_⟩
    rw [outsW_get _ _ hj, outsW_get _ _ hj]
    unfold GT.wline
    rw [GT.wd_bit, GT.wd_bit]
    simp only [hv, decide_true, Bool.true_and]
    exact fun e => hd e.symm
theorem shows_lt64 {N : Nat} (hN : N ≤ 6) (ls : List S40) (os : List Int) (f : Nat) : GT.shows (toC N ls os) f < 18446744073709551616 := Nat.lt_of_lt_of_le (GT.wd_lt _ _) (pow64_le hN)
set_option maxHeartbeats 8000000
set_option maxRecDepth 100000
theorem shows_calls {w : World} {g N : Nat} {ls : List S40} {os : List Int} (f : Nat) (hf : f ≤ 100) (hok : okC (N : Int) ls os = true) (hC : CircAt w g N ls os) :
    Calls Try.prog 74 #[.pointer (some ⟨g, 0, none⟩), .int .i64 (f : Int)] w fun e w' => e = .returned (.int .u64 ((GT.shows (toC N ls os) f : Nat) : Int)) ∧ Below w.heap.size w w' := by
  have hs := okC_small hok
  have HO1 := Aside0.mk (fun W (hb : Below w.heap.size w W) => outs_calls (some f) (fun q hq => by cases hq; exact hf) hok (hC.keep hb))
  have HO2 := Aside0.mk (fun W (hb : Below w.heap.size w W) => outs_calls none (fun q hq => by cases hq) hok (hC.keep hb))
  have hsh := shTo_shows (toC N ls os) f
  have hN6 : N ≤ 6 := by omega
  have w1 := outsW_W64 hN6 ls os none
  have w2 := outsW_W64 hN6 ls os (some f)
  have hl1 := outsW_length (toC N ls os) none
  have hl2 := outsW_length (toC N ls os) (some f)
  have hlo : (toC N ls os).os.length = os.length := by simp [toC]
  rw [hlo] at hl1 hl2 hsh
  have hm : os.length ≤ 4 := hs.2.2.2.2
  generalize os.length = m at *
  generalize GT.outsW (toC N ls os) none = a at *
  generalize GT.outsW (toC N ls os) (some f) = b at *
  generalize GT.shows (toC N ls os) f = S at *
  subst hsh
  have HW := Aside0.mk (And.intro w1 w2)
  have HL := Aside0.mk (And.intro hl1 hl2)
  have HM := Aside0.mk hm
  have HB := Aside0.mk (Below.refl w.heap.size w)
  rw [show fI (some f) = (f : Int) from rfl] at HO1
  rw [show fI none = -1 from rfl] at HO2
  clear hs hok hC w1 w2 hlo hl1 hl2 hm
  go_enter Try.func74, Try.ntmps74
  go_wp2_with (first | (go_at_call 59; (with_reducible refine (HO1.out _ HB.out).mono ?_); rintro e w1 ⟨v1, rfl, hR, hb⟩; obtain ⟨A1, c1, rfl⟩ := Kd.R_slice hR; have HR1 := Aside0.mk (Kd.R_reads' hR); have HB1 := Aside0.mk hb; clear hR hb))
  go_wp2_with (first | (go_at_call 59; (with_reducible refine (HO2.out _ HB1.out).mono ?_); rintro e w2 ⟨v2, rfl, hR, hb⟩; obtain ⟨A2, c2, rfl⟩ := Kd.R_slice hR; have HR2 := Aside0.mk (Kd.R_reads' hR); have HB2 := Aside0.mk hb; clear hR hb))
  have hB0 := Aside0.mk (HB1.out.trans (HB2.out.mono HB1.out.size))
  have hR1 := Aside0.mk (Kd.C_below HR1.out.2.2 HB2.out)
  have HL1 := HL.out.1
  have HL2 := HL.out.2
  have hBw := Aside0.mk (Below.refl w2.heap.size w2)
  go_loopw [5, 15] (fun v5 v15 w' => ∃ i : Nat, v15 = .int .i64 (i : Int) ∧ v5 = .int .u64 ((shTo a b i : Nat) : Int) ∧ Aside0 (i ≤ m) ∧ Aside0 (Below w2.heap.size w2 w')) (fun _ v _ => m - (intOf v).toNat)
  case atStart => exact ⟨0, rfl, rfl, ⟨Nat.zero_le _⟩, hBw⟩
  case round =>
    clear hBw
    obtain ⟨i, rfl, rfl, Hi, HBw⟩ := hrel
    have hna : (nI a).length = m := by rw [nI_length]; exact HL.out.1
    have hnb : (nI b).length = m := by rw [nI_length]; exact HL.out.2
    rw [hna]
    by_cases ct : (i : Int) < (m : Int)
    · have c1b : decide ((i : Int) < (m : Int)) = true := decide_eq_true ct
      have c1c : decide (i < m) = true := decide_eq_true (by omega)
      have hi : i < m := by omega
      have Hct := Aside0.mk hi
      have q1 := eq_true ct
      have q2 := eq_true hi
      have q3 := eq_true (show (0 : Int) ≤ i by omega)
      have r2 := Kd.C_below HR2.out.2.2 HBw.out
      have r1 := Kd.C_below hR1.out HBw.out
      rw [hna] at r2
      rw [hnb] at r1
      obtain ⟨ad2, e2, hx2⟩ := Kd.at_int r2 (i : Int) (by omega) ct
      obtain ⟨ad1, e1, hx1⟩ := Kd.at_int r1 (i : Int) (by omega) ct
      subst e1 e2
      rw [rd_nI, Int.toNat_natCast] at hx1 hx2
      have HSt := Aside0.mk (show Go.bits .or .u64 ((shTo a b i : Nat) : Int) (Go.bits .xor .u64 ((a.getD i 0 : Nat) : Int) ((b.getD i 0 : Nat) : Int)) = ((shTo a b (i + 1) : Nat) : Int) by
        have hx := Nat.xor_lt_two_pow (n := 64) (by simpa using HW.out.1 i) (by simpa using HW.out.2 i)
        rw [xoru64 _ _ (HW.out.1 i) (HW.out.2 i), oru64 _ _ (shTo_lt HW.out.1 HW.out.2 i) (by simpa using hx)]
        rfl)
      generalize a.getD i 0 = x at *
      generalize b.getD i 0 = y at *
      clear ct r1 r2 hi
      go_wp2
      go_roundw
      case rel => exact ⟨i + 1, by rw [w64 (by have := Hct.out; have := HM.out; omega) (by have := Hct.out; have := HM.out; omega)]; rfl, by rw [HSt.out], ⟨Hct.out⟩, HBw⟩
      case measure => rw [w64 (by have := Hct.out; have := HM.out; omega) (by have := Hct.out; have := HM.out; omega)]; have := Hct.out; simp [intOf]; omega
    · have c1b : decide ((i : Int) < (m : Int)) = false := decide_eq_false ct
      have c1c : decide (i < m) = false := decide_eq_false (by omega)
      have him : m = i := by have := Hi.out; omega
      subst him
      clear ct
      go_wp2
      go_ret
      exact ⟨rfl, hB0.out.trans (HBw.out.mono hB0.out.size)⟩
end Go.Proofs.Ytelfalicickelaa.P
set_option linter.unusedSimpArgs false
set_option linter.unusedVariables false
namespace Go.Proofs.Ytelfalicickelaa.P
open Go.Lib Go.RowKit Go.Proofs.YtelfalicickelaaW.PrintWords Go.Proofs.YtelfalicickelaaW.PrintLast Go.Proofs.YtelfalicickelaaW.PrintMore Go.Proofs.Ytelfalicickelaa.Kit
def whereN (c : GT.C) (p : Nat → Bool) : List Nat := (List.range (2 * GT.lines c)).filter fun f => p (GT.shows c f)
def whereTo (c : GT.C) (p : Nat → Bool) (i : Nat) : List Nat := (List.range i).filter fun f => p (GT.shows c f)
theorem whereTo_succ (c : GT.C) (p : Nat → Bool) (i : Nat) : whereTo c p (i + 1) = if p (GT.shows c i) = true then whereTo c p i ++ [i] else whereTo c p i := by
  unfold whereTo
  rw [List.range_succ, List.filter_append]
  by_cases h : p (GT.shows c i) = true
  · rw [if_pos h]; simp [h]
  · rw [if_neg h]; simp [h]
theorem whereTo_len (c : GT.C) (p : Nat → Bool) (i : Nat) : (whereTo c p i).length ≤ i := by
  unfold whereTo
  refine Nat.le_trans (List.length_filter_le _ _) ?_
  rw [List.length_range]
  exact Nat.le_refl _
theorem toC_lines (N : Nat) (ls : List S40) (os : List Int) : GT.lines (toC N ls os) = N + ls.length := by simp [GT.lines, toC]
set_option maxHeartbeats 8000000
set_option maxRecDepth 100000
theorem ask_shown0 (x : Nat) (W : World) (b : Bool) (hb : (x != 0) = b) : Calls Try.prog 90 #[.int .u64 (x : Int)] W fun e w' => e = .returned (.bool b) ∧ Drawn0 W w' := by
  have h1 : ((x : Int) != 0) = b := by rw [← hb, Bool.eq_iff_iff, bne_iff_ne, bne_iff_ne]; omega
  clear hb
  go_enter Try.func90, Try.ntmps90
  go_wp2
  go_ret
  exact ⟨by rw [← h1]; rfl, Drawn0.refl _⟩
theorem and_shl (x v : Nat) (hx : x < 18446744073709551616) (hv : v ≤ 63) : (Go.bits .and .u64 (x : Int) (IntKind.u64.wrap (2 ^ min v 64)) != 0) = x.testBit v := by
  rw [Nat.min_eq_left (by omega)]
  have h2 : (2 : Int) ^ v = ((2 ^ v : Nat) : Int) := by simp
  rw [h2, u64w (pow_lt64 hv), andu64 _ _ hx (pow_lt64 hv), and_pow]
  have hp := Nat.two_pow_pos v
  cases x.testBit v with
  | false => rfl
  | true =>
    rw [if_pos rfl]
    exact bne_iff_ne.2 (fun e => Nat.ne_of_gt hp (Int.ofNat_eq_zero.1 e))
theorem where_shown0 {w : World} {g N : Nat} {ls : List S40} {os : List Int}  (hok : okC (N : Int) ls os = true) (hC : CircAt w g N ls os) :
    Calls Try.prog 71 #[.pointer (some ⟨g, 0, none⟩), .func (.func 90) #[] #[]] w fun e w' => ∃ v0_ : Value, e = .returned v0_ ∧ Kd.R (Kd.int .i64) 3 w' w.heap.size (fun _ => True) v0_ (nI (whereN (toC N ls os) (fun x => x != 0))) ∧ Below w.heap.size w w' := by
  have hs := okC_small hok
  have hN6 : N ≤ 6 ∧ ls.length ≤ 16 := by omega
  have HS := Aside0.mk (fun W (hb : Below w.heap.size w W) f hf => shows_calls f hf hok (hC.keep hb))
  have HFl := Aside0.mk (fun W (hb : Below w.heap.size w W) => failures_calls (hC.keep hb) hN6.1 hN6.2)
  have HLt := Aside0.mk (fun f => shows_lt64 hN6.1 ls os f)
  have hwh : whereN (toC N ls os) (fun x => x != 0) = whereTo (toC N ls os) (fun x => x != 0) (2 * (N + ls.length)) := by unfold whereN whereTo; rw [toC_lines]
  rw [hwh]
  obtain ⟨M, hM⟩ : ∃ M, 2 * (N + ls.length) = M := ⟨_, rfl⟩
  have hM44 : M ≤ 44 := by omega
  rw [hM] at HFl ⊢
  generalize toC N ls os = cc at *
  have HM := Aside0.mk hM44
  have HB := Aside0.mk (Below.refl w.heap.size w)
  clear hs hok hC hN6 hwh hM hM44
  go_enter Try.func71, Try.ntmps71
  go_wp2_with (go_at_call 55; (with_reducible refine (HFl.out _ HB.out).mono ?_); rintro e w1 ⟨rfl, ⟨nd, rfl⟩⟩)
  have HB1 := Aside0.mk (pw_below_drewN HB.out nd)
  clear HB
  go_loopw [5, 9] (fun v5 v9 w' => ∃ i : Nat, v9 = .int .i64 (i : Int) ∧ Aside0 (i ≤ M) ∧ Aside0 (Kd.R (Kd.int .i64) 3 w' w.heap.size (fun _ => True) v5 (nI (whereTo cc (fun x => x != 0) i))) ∧ Aside0 (Below w.heap.size w w')) (fun _ v _ => M - (intOf v).toNat)
  case atStart => exact ⟨0, rfl, ⟨Nat.zero_le _⟩, ⟨Kd.R_nil _ _ _ _ _⟩, HB1⟩
  case round =>
    clear HB1
    obtain ⟨i, rfl, Hi, HR, HB⟩ := hrel
    by_cases ct : (i : Int) < (M : Int)
    · have c1b : decide ((i : Int) < (M : Int)) = true := decide_eq_true ct
      have c1c : decide (i < M) = true := decide_eq_true (by omega)
      have Hct := Aside0.mk (show i < M by omega)
      have HSw := Aside0.mk (HS.out _ HB.out i (by have := HM.out; omega))
      have hlt := HLt.out i
      have hsu := whereTo_succ cc (fun x => x != 0) i
      obtain ⟨b, hb⟩ : ∃ b, (fun x => x != 0) (GT.shows cc i) = b := ⟨_, rfl⟩
      simp only [] at hb hsu
      rw [hb] at hsu
      have hlen : (nI (whereTo cc (fun x => x != 0) i)).length < 17592186044416 := by rw [nI_length]; exact Nat.lt_of_le_of_lt (whereTo_len cc (fun x => x != 0) i) (by have := HM.out; omega)
      have HLen := Aside0.mk hlen
      generalize GT.shows cc i = x at *
      have HXl := Aside0.mk hlt
      have HBb := Aside0.mk hb
      clear ct hlt hb hlen
      cases b with
      | true =>
        rw [if_pos rfl] at hsu
        have HTK := Aside0.mk (show nI (whereTo cc (fun x => x != 0) i) ++ [(i : Int)] = nI (whereTo cc (fun x => x != 0) (i + 1)) by rw [hsu, nI_snoc])
        clear hsu
        go_wp2_with (first | (go_at_call 74; (with_reducible refine (HSw.out).mono ?_); rintro e w2 ⟨rfl, hb⟩; have HB2 := Aside0.mk (HB.out.trans (hb.mono HB.out.size)); have HR2 := Aside0.mk (Kd.R_below HR.out hb); clear hb) | (go_at_call 90; (with_reducible refine (ask_shown0 x _ true HBb.out).mono ?_); rintro e w3 ⟨rfl, ⟨nd, rfl⟩⟩; have HB3 := Aside0.mk (pw_below_drewN HB2.out nd); have HR3 := Aside0.mk (Kd.R_drewN HR2.out nd)) | ((with_reducible refine gate_builtin (b := .append) (xs := #[.tmp 17, .tmp 19]) rfl ?_); at_builtin; refine Kd.R_append (Kd.int .i64) (w0 := w) w.heap.size rfl (.tmp 17) (.tmp 19) 23 3 (.int .i64 0) 8 rfl Try.underlying23 info3 rfl (by decide) (by omega) _ (nI (whereTo cc (fun x => x != 0) i)) (i : Int) [.int .i64 (i : Int)] (fun _ => True) (fun _ => False) rfl rfl ?aP (fun _ hk => hk.elim) ?aF ?aO ?aB ?aS ?aL ?_; (case aP => exact rfl); (case aB => exact (by repeat (first | (with_reducible first | exact HB3.out | apply below_alloc | apply pw_below_drewN | apply below_drew1) | exact HB3.out))); (case aF => exact (fun _ _ => trivial)); (case aO => exact (by (with_reducible repeat (first | apply Kd.R_alloc | apply Kd.R_drewN | apply Kd.R_drew)); exact HR3.out)); (case aS => exact (below_size (by repeat (first | (with_reducible first | exact HB3.out | apply below_alloc | apply pw_below_drewN | apply below_drew1) | exact HB3.out)))); (case aL => have := HLen.out; omega); intro v243 w7 ho hb hg hat; rw [HTK.out] at ho; have HB9 := Aside0.mk (hb); have HR9 := Aside0.mk (ho); clear HB3; clear HR3; clear ho hb hg hat))
        go_roundw
        case rel => exact ⟨i + 1, by rw [w64 (by have := Hct.out; have := HM.out; omega) (by have := Hct.out; have := HM.out; omega)]; rfl, ⟨Hct.out⟩, HR9, HB9⟩
        case measure => rw [w64 (by have := Hct.out; have := HM.out; omega) (by have := Hct.out; have := HM.out; omega)]; have := Hct.out; simp [intOf]; omega
      | false =>
        rw [if_neg (by decide)] at hsu
        have HTK := Aside0.mk hsu
        clear hsu
        go_wp2_with (first | (go_at_call 74; (with_reducible refine (HSw.out).mono ?_); rintro e w2 ⟨rfl, hb⟩; have HB2 := Aside0.mk (HB.out.trans (hb.mono HB.out.size)); have HR2 := Aside0.mk (Kd.R_below HR.out hb); clear hb) | (go_at_call 90; (with_reducible refine (ask_shown0 x _ false HBb.out).mono ?_); rintro e w3 ⟨rfl, ⟨nd, rfl⟩⟩))
        go_roundw
        case rel => exact ⟨i + 1, by rw [w64 (by have := Hct.out; have := HM.out; omega) (by have := Hct.out; have := HM.out; omega)]; rfl, ⟨Hct.out⟩, ⟨by rw [HTK.out]; exact Kd.R_drewN HR2.out _⟩, ⟨pw_below_drewN HB2.out _⟩⟩
        case measure => rw [w64 (by have := Hct.out; have := HM.out; omega) (by have := Hct.out; have := HM.out; omega)]; have := Hct.out; simp [intOf]; omega
    · have c1b : decide ((i : Int) < (M : Int)) = false := decide_eq_false ct
      have c1c : decide (i < M) = false := decide_eq_false (by omega)
      have hiM : M = i := by have := Hi.out; omega
      subst hiM
      clear ct
      go_wp2
      go_ret
      exact ⟨_, rfl, HR.out, HB.out⟩
end Go.Proofs.Ytelfalicickelaa.P
set_option linter.unusedSimpArgs false
set_option linter.unusedVariables false
namespace Go.Proofs.Ytelfalicickelaa.P
open Go.Lib Go.RowKit Go.Shelf Go.Sort Go.Proofs.YtelfalicickelaaW.PrintWords Go.Proofs.YtelfalicickelaaW.PrintLast Go.Proofs.YtelfalicickelaaW.PrintMore Go.Proofs.Ytelfalicickelaa.Kit
structure U64 where
  n : Nat
  lt : n < 18446744073709551616
instance : Inhabited U64 := ⟨⟨0, by decide⟩⟩
def encU (x : U64) : Value := .int .u64 (x.n : Int)
def toU (x : Nat) : U64 := if h : x < 18446744073709551616 then ⟨x, h⟩ else ⟨0, by decide⟩
theorem toU_n {x : Nat} (h : x < 18446744073709551616) : (toU x).n = x := by unfold toU; rw [dif_pos h]
theorem W64.mem {l : List Nat} (h : W64 l) {x : Nat} (hx : x ∈ l) : x < 18446744073709551616 := by
  obtain ⟨i, hi, rfl⟩ := List.mem_iff_getElem.1 hx
  have := h i
  simpa [List.getD_eq_getElem?_getD, hi] using this
theorem W64.of {l : List Nat} (h : ∀ x, x ∈ l → x < 18446744073709551616) : W64 l := by
  intro i
  by_cases hi : i < l.length
  · have := h l[i] (List.getElem_mem hi)
    simpa [List.getD_eq_getElem?_getD, hi] using this
  · rw [List.getD_eq_getElem?_getD, List.getElem?_eq_none (by omega)]
    decide
theorem without_W64 {l : List Nat} (h : W64 l) (v : Nat) : W64 (GT.without l v) := W64.of fun x hx => h.mem (List.mem_filter.1 hx).1
theorem without_toU {l : List Nat} (h : ∀ x, x ∈ l → x < 18446744073709551616) (v : Nat) : ((l.map toU).filter fun x => !x.n.testBit v).map (fun x => x.n) = GT.without l v := by
  unfold GT.without
  induction l with
  | nil => rfl
  | cons x l ih =>
    have h1 := toU_n (h x (by simp))
    have h2 := ih fun y hy => h y (by simp [hy])
    rw [List.map_cons, List.filter_cons, List.filter_cons, h1]
    cases x.testBit v with
    | true => simpa using h2
    | false => simpa [h1] using h2
set_option maxHeartbeats 8000000
set_option maxRecDepth 100000
theorem wo_gives (x : U64) (v Bv : Nat) (hv : v ≤ 63) (W : World) (hc : W.cell? ⟨Bv, 0, none⟩ = some (.int .i64 (v : Int))) : FnGives Try.prog 96 #[.pointer (some ⟨Bv, 0, none⟩)] #[encU x] (.bool (x.n.testBit v)) W := by
  have h1 := and_shl x.n v x.lt hv
  obtain ⟨b, hb⟩ : ∃ b, x.n.testBit v = b := ⟨_, rfl⟩
  rw [hb] at h1 ⊢
  unfold encU
  show Calls Try.prog 96 #[.int .u64 (x.n : Int), .pointer (some ⟨Bv, 0, none⟩)] W _
  generalize x.n = y at *
  clear hb hv
  go_enter Try.func96, Try.ntmps96
  go_wp2
  go_ret
  exact ⟨by rw [← h1]; rfl, 0, rfl⟩
theorem holds_own {base g cap e : Nat} {w : World} {xs : List Nat} (h64 : W64 xs) (h : w.ownsRow base e 1 (.slice (some ⟨g, 0, none⟩) xs.length cap) xs.length (nums .u64 (nI xs))) :
    Holds encU w g 0 (xs.map toU).toArray := by
  intro j hj
  have hj' : j < xs.length := by simpa using hj
  rcases h.2 with ⟨h1, _⟩ | ⟨g', cap', cur, h1, hb, hh, hn, hc, hs, ht⟩
  · cases h1
  · injection h1 with h1 h2 h3
    injection h1 with h1
    injection h1 with h1
    subst h1
    rw [Nat.mul_one] at ht
    have h4 : cur.toList[j]? = (nums .u64 (nI xs))[j]? := by
      rw [← ht, List.getElem?_take, if_pos hj']
    have h5 : (nums .u64 (nI xs))[j]? = some (.int .u64 ((xs[j] : Nat) : Int)) := by simp [nums, nI, hj']
    have h6 : cur[j]? = some (.int .u64 ((xs[j] : Nat) : Int)) := by
      rw [h5] at h4
      rwa [Array.getElem?_toList] at h4
    constructor
    · rw [Nat.zero_add]
      have := blkc hh j h6
      rw [this]
      unfold encU
      rw [getElem!_pos _ j hj]
      simp only [List.getElem_toArray, List.getElem_map]
      rw [toU_n (h64.mem (List.getElem_mem hj'))]
    · unfold World.frozen?
      rw [hh]
      rfl
theorem below_putRow {w : World} {B g : Nat} (d : Array U64) (q : Nat) (hg : B ≤ g) : Below B w (putRow encU (Sort.ahead w q) g 0 d) := by
  refine ⟨rfl, rfl, rfl, by rw [Go.Sort.size_putRow]; exact Nat.le_refl _, fun k hk => ?_⟩
  show (mapBlock _ _ _).heap[k]? = _
  unfold mapBlock
  simp only [Array.getElem?_modify]
  rw [if_neg (by omega)]
  rfl
theorem own_slice {w : World} {base e n : Nat} {v : Value} {xs : List Value} (h : w.ownsRow base e 1 v n xs) (hne : v ≠ .slice none 0 0) : ∃ g cap, v = .slice (some ⟨g, 0, none⟩) n cap ∧ base ≤ g ∧ n ≤ cap := by
  rcases h.2 with ⟨h1, _⟩ | ⟨g, cap, cur, h1, hb, hh, hn, _⟩
  · exact absurd h1 hne
  · exact ⟨g, cap, h1, hb, hn⟩
theorem del_calls (ws : List Nat) (v g cap B Bv : Nat) (w2 : World) (hv : v ≤ 63) (h64 : W64 ws) (h44 : ws.length ≤ 100) (hBv : Bv < B) (hB2 : B ≤ w2.heap.size) (hcv : w2.cell? ⟨Bv, 0, none⟩ = some (.int .i64 (v : Int))) (hg : B ≤ g) (hcap : ws.length ≤ cap)
    (ho : w2.ownsRow B 74 1 (.slice (some ⟨g, 0, none⟩) ws.length cap) ws.length (nums .u64 (nI ws))) :
    Calls Try.prog 94 #[.slice (some ⟨g, 0, none⟩) ws.length cap, .func (.func 96) #[] #[.pointer (some ⟨Bv, 0, none⟩)]] w2 fun e w' => e = .returned (.slice (some ⟨g, 0, none⟩) (nI (GT.without ws v)).length cap) ∧ Kd.C (Kd.int .u64) w' (some ⟨g, 0, none⟩) (nI (GT.without ws v)).length (nI (GT.without ws v)) ∧ Below B w2 w' := by
  have hsz : (ws.map toU).toArray.size = ws.length := by simp
  have hH := holds_own h64 ho
  have h := Try.slices_DeleteFunc encU (fun _ => rfl) (fun x : U64 => x.n.testBit v) 96 #[.pointer (some ⟨Bv, 0, none⟩)] (enters_of Try.func96 (by kernel_rfl) rfl) ⟨0, by decide⟩ (fun w => by kernel_rfl) g 0 cap (ws.map toU).toArray w2
      (fun W x hW => wo_gives x v Bv hv W ((hW.cell (p := ⟨Bv, 0, none⟩) (by show Bv < w2.heap.size; omega)).trans hcv))
      (fun n os dk x _ => wo_gives x v Bv hv _ (by
        unfold sortWorld
        rw [cell?_grow _ _ _ (by show Bv < (putRow _ _ _ _ _).heap.size; rw [Go.Sort.size_putRow]; show Bv < w2.heap.size; omega), cell?_putRow_other _ _ g 0 _ _ (Or.inl (by show Bv ≠ g; omega))]
        exact hcv))
      hH (by rw [hsz]; omega) (by rw [hsz]; exact hcap)
  rw [hsz] at h
  have hf := without_toU (fun x hx => h64.mem hx) v
  have hlf : (nI (GT.without ws v)).length = (((ws.map toU).toArray.toList.filter fun x => !x.n.testBit v)).length := by
    rw [nI_length, ← hf, List.length_map]
  have hle : (nI (GT.without ws v)).length ≤ ws.length := by
    rw [nI_length]
    exact List.length_filter_le _ _
  rw [hlf]
  refine h.mono ?_
  rintro e w' ⟨he, q, rfl⟩
  refine ⟨he, ?_, below_putRow _ _ hg⟩
  rw [← hlf]
  refine Kd.C_of_reads (d := (0 : Int)) (h1 := fun _ => rfl) ⟨rfl, by omega, fun hn => ⟨_, rfl, fun j hj => ?_⟩⟩
  have hadd : (⟨g, 0, none⟩ : Addr).add j = ⟨g, 0 + j, none⟩ := by
    unfold Addr.add
    by_cases e : j = 0
    · rw [if_pos e, e]
    · rw [if_neg e]
  rw [hadd]
  have hds : ((((ws.map toU).toArray.toList.filter fun x => !x.n.testBit v)) ++ List.replicate (ws.length - (((ws.map toU).toArray.toList.filter fun x => !x.n.testBit v)).length) (⟨0, by decide⟩ : U64)).toArray.size = (ws.map toU).toArray.size := by
    rw [List.size_toArray, List.length_append, List.length_replicate, hsz]
    omega
  have hcell := Go.Sort.cell?_putRow encU (Sort.ahead w2 q) g 0 (ws.map toU).toArray _ (fun j hj => hH j hj) hds j (by rw [hds, hsz]; omega)
  have hjf : j < (((ws.map toU).toArray.toList.filter fun x => !x.n.testBit v)).length := by rw [← hlf]; exact hj
  rw [hlf, hcell]
  unfold encU
  rw [getElem!_pos _ j (by rw [hds, hsz]; omega)]
  simp only [List.getElem_toArray]
  rw [List.getElem_append_left hjf]
  have hj2 : j < (GT.without ws v).length := by rw [nI_length] at hj; exact hj
  have hv2 : (GT.without ws v)[j]'hj2 = ((((ws.map toU).toArray.toList.filter fun x => !x.n.testBit v))[j]'hjf).n := by
    have e1 : (GT.without ws v)[j]? = some ((((ws.map toU).toArray.toList.filter fun x => !x.n.testBit v))[j]'hjf).n := by
      rw [← hf]
      rw [List.getElem?_map]
      rw [List.getElem?_eq_getElem hjf]
      rfl
    rw [List.getElem?_eq_getElem hj2] at e1
    injection e1
  rw [← hv2]
  simp [nI, List.getD_eq_getElem?_getD, hj2]
theorem without_calls2 (A : Option Addr) (c : Nat) (ws : List Nat) (v : Nat) (w : World) (hv : v ≤ 63) (h64 : W64 ws) (h0 : 0 < ws.length) (h44 : ws.length ≤ 100) (hr : Kd.C (Kd.int .u64) w A (nI ws).length (nI ws)) :
    Calls Try.prog 64 #[.slice A (nI ws).length c, .int .i64 (v : Int)] w fun e w' => ∃ A' c', e = .returned (.slice A' (nI (GT.without ws v)).length c') ∧ Kd.C (Kd.int .u64) w' A' (nI (GT.without ws v)).length (nI (GT.without ws v)) ∧ (nI (GT.without ws v)).length ≤ c' ∧ (∀ ad, A' = some ad → w.heap.size ≤ ad.block) ∧ Below w.heap.size w w' := by
  have hnl := nI_length ws
  obtain ⟨w1, hw1⟩ : ∃ w1, w.alloc (.cells #[.int .i64 (v : Int)] 3) = w1 := ⟨_, rfl⟩
  have hb1 : Below w.heap.size w w1 := by rw [← hw1]; exact below_alloc (Below.refl _ _) _
  have hs1 : w1.heap.size = w.heap.size + 1 := by rw [← hw1, World.size_alloc]
  have hcv : w1.cell? ⟨w.heap.size, 0, none⟩ = some (.int .i64 (v : Int)) := by rw [← hw1]; exact cell_new _ _ _ 0 rfl
  obtain ⟨b, off, rfl, hcells⟩ := ints_in hr (by omega)
  obtain ⟨i0, hi0, hz0, hz1, hz2⟩ := info_parts info_word
  have hclone : Calls Try.prog 95 #[.slice (some ⟨b, off, none⟩) ws.length c] w1 fun e w' => ∃ v', e = .returned v' ∧ w'.ownsRow w1.heap.size 74 1 v' ws.length (nums .u64 (nI ws)) ∧ v' ≠ .slice none 0 0 ∧ Below w1.heap.size w1 w' := Try.slices_Clone i0 (.int .u64 0) 1 8 hi0 hz0 hz1 hz2 rfl (by decide) (fun w => by kernel_rfl) b off ws.length c (nums .u64 (nI ws)) w1 (by rw [nums_length, hnl, Nat.mul_one]) (by unfold maxLen; omega) (by omega) (fun j u hu => by
    have hj : j < (nI ws).length := by
      have := (List.getElem?_eq_some_iff.1 hu).1
      rwa [nums_length] at this
    have h2 := hcells j hj
    rw [pw_cell_below hb1 h2]
    rw [← hu]
    simp [nums, hj]) (fun u hu => by obtain ⟨q, _, rfl⟩ := List.mem_map.1 hu; rfl)
  have HCl := Aside0.mk hclone
  have HDel := Aside0.mk (fun (w2 : World) (g cap : Nat) (hb2 : Below w1.heap.size w1 w2) hg hcap ho => del_calls ws v g cap w1.heap.size w.heap.size w2 hv h64 h44 (by omega) hb2.size (pw_cell_below hb2 hcv) hg hcap ho)
  have HB1 := Aside0.mk hb1
  have HS1 := Aside0.mk hs1
  have hlc : (nI (GT.without ws v)).length ≤ ws.length := by rw [nI_length]; exact List.length_filter_le _ _
  have HLc := Aside0.mk hlc
  generalize nI (GT.without ws v) = R at *
  rw [hnl]
  clear hclone hcells hr hi0 hz0 hz1 hz2 hcv h64 h0 h44 hb1 hs1 hlc hnl
  generalize nums .u64 (nI ws) = N0 at *
  generalize ws.length = n at *
  go_enter Try.func64, Try.ntmps64
  rw [← hw1] at *
  go_wp2_with (first | (go_at_call 95; (with_reducible refine (HCl.out).mono ?_); rintro e w2 ⟨v2, rfl, ho, hne, hb2⟩; obtain ⟨g, cap, e2, hg, hcap⟩ := own_slice ho hne; subst e2; have HDe := Aside0.mk (HDel.out w2 g cap hb2 hg hcap ho); have HB2 := Aside0.mk hb2; have HG := Aside0.mk hcap; have HGe := Aside0.mk hg; clear ho hne hb2 hg hcap) | (go_at_call 94; (with_reducible refine (HDe.out).mono ?_); rintro e w3 ⟨rfl, hc3, hb3⟩; have HC3 := Aside0.mk hc3; have HB3 := Aside0.mk hb3; clear hc3 hb3))
  go_ret
  exact ⟨_, _, rfl, HC3.out, Nat.le_trans HLc.out HG.out, (fun ad e => by injection e with e; subst e; have := HGe.out; have := HS1.out; show w.heap.size ≤ g; omega), HB1.out.trans (Below.mono (HB2.out.trans HB3.out) HB1.out.size)⟩
theorem without_calls (A : Option Addr) (c : Nat) (ws : List Nat) (v : Nat) (w : World) (hv : v ≤ 63) (h64 : W64 ws) (h0 : 0 < ws.length) (h44 : ws.length ≤ 100) (hr : Kd.C (Kd.int .u64) w A (nI ws).length (nI ws)) :
    Calls Try.prog 64 #[.slice A (nI ws).length c, .int .i64 (v : Int)] w fun e w' => ∃ A' c', e = .returned (.slice A' (nI (GT.without ws v)).length c') ∧ Kd.C (Kd.int .u64) w' A' (nI (GT.without ws v)).length (nI (GT.without ws v)) ∧ (nI (GT.without ws v)).length ≤ c' ∧ Below w.heap.size w w' := by
  refine (without_calls2 A c ws v w hv h64 h0 h44 hr).mono ?_
  rintro e w' ⟨A', c', h1, h2, h3, _, h4⟩
  exact ⟨A', c', h1, h2, h3, h4⟩
end Go.Proofs.Ytelfalicickelaa.P
namespace Go.Proofs.Ytelfalicickelaa.P
open Go.RowKit Go.Proofs.YtelfalicickelaaW.PrintWords Go.Proofs.YtelfalicickelaaW.PrintLast Go.Proofs.YtelfalicickelaaW.PrintMore
attribute [local go_sem] max2_int max_two
set_option linter.unusedVariables false
set_option linter.unusedSimpArgs false
def gate_word_many.f (a0 : Int) : Option (Int) := (bits_OnesCount64.f a0).bind fun t110 => (some t110)
set_option maxHeartbeats 8000000 in
set_option maxRecDepth 100000 in
theorem gate_word_many.calls (a0 : Int) (r : Int) (w : World) (h : gate_word_many.f a0 = some r) :
    Calls Try.prog 93 #[.int .u64 a0] w fun e w' => e = .returned (.int .i64 r) ∧ Drawn0 w w' := by
  have H : ((bits_OnesCount64.f a0).bind fun t110 => (some t110)) = some r := h
  clear h
  replace H := Option.bind_eq_some_iff.mp H
  obtain ⟨t110, A20, H⟩ := H
  replace H : (some t110) = some r := H
  have A2 := Aside0.mk A20
  clear A20
  obtain rfl := Option.some.inj H
  go_enter Try.func93, Try.ntmps93
  go_wp2_with (first | ((with_reducible refine gate_callee (f := 99) rfl ?_); refine goesL_ (some 4) rfl rfl Try.func99 (by kernel_rfl) rfl #[.int .u64 a0] rfl (by (try simp only [List.map_toArray, List.map_cons, List.map_nil]); first | done | rfl | (simp only [List.length_drop, List.length_take]; rfl)) ?_; (with_reducible refine (bits_OnesCount64.calls a0 t110 _ A2.out).mono ?_); rintro e w' ⟨rfl, ⟨nd, rfl⟩⟩; refine ⟨_, rfl, ?_⟩))
  go_ret
  exact ⟨by first | rfl | (simp; done) | (simp [*]; done), by repeat (first | exact Drawn0.refl _ | apply Drawn0.step)⟩
end Go.Proofs.Ytelfalicickelaa.P
set_option linter.unusedSimpArgs false
set_option linter.unusedVariables false
namespace Go.Proofs.Ytelfalicickelaa.P
open Go.Lib Go.RowKit Go.Proofs.YtelfalicickelaaW.PrintWords Go.Proofs.YtelfalicickelaaW.PrintLast Go.Proofs.YtelfalicickelaaW.PrintMore Go.Proofs.Ytelfalicickelaa.Kit
def cnt (a s : Nat) : Nat := Lib.onesCount (s &&& a)
def pickTo (a : Nat) (S : List Nat) : Nat → Nat
  | 0 => S.getD 0 0
  | i + 1 => if cnt a (S.getD (i + 1) 0) < cnt a (pickTo a S i) then S.getD (i + 1) 0 else pickTo a S i
def pickM (S : List Nat) (a : Nat) : Nat := pickTo a S (S.length - 1)
theorem pickTo_mem (a : Nat) (S : List Nat) : ∀ i, i < S.length → pickTo a S i ∈ S
  | 0, h => by
    unfold pickTo
    simp [List.getD_eq_getElem?_getD, h]
  | i + 1, h => by
    unfold pickTo
    split
    · simp [List.getD_eq_getElem?_getD, h]
    · exact pickTo_mem a S i (by omega)
theorem pickM_mem (S : List Nat) (a : Nat) (h : S ≠ []) : pickM S a ∈ S := pickTo_mem a S _ (by have := List.length_pos_iff.2 h; omega)
theorem many_f (x : Nat) (hx : x < 18446744073709551616) : gate_word_many.f (x : Int) = some ((Lib.onesCount x : Nat) : Int) := by
  unfold gate_word_many.f bits_OnesCount64.f
  rw [if_pos (by omega), Int.toNat_natCast]
  rfl
theorem cnt_le (a s : Nat) : cnt a s ≤ 64 := ones_le _
set_option maxHeartbeats 8000000
set_option maxRecDepth 100000
theorem less_calls (a x y Ba : Nat) (ha : a < 18446744073709551616) (hx : x < 18446744073709551616) (hy : y < 18446744073709551616) (W : World) (hc : W.cell? ⟨Ba, 0, none⟩ = some (.int .u64 (a : Int))) :
    Calls Try.prog 92 #[.int .u64 (x : Int), .int .u64 (y : Int), .pointer (some ⟨Ba, 0, none⟩)] W fun e w' => e = .returned (.int .i64 ((cnt a x : Int) - (cnt a y : Int))) ∧ Drawn0 W w' := by
  have h1 := many_f (x &&& a) (and_lt64 hx ha)
  have h2 := many_f (y &&& a) (and_lt64 hy ha)
  have e1 := andu64 x a hx ha
  have e2 := andu64 y a hy ha
  rw [← e1] at h1
  rw [← e2] at h2
  have H1 := Aside0.mk h1
  have H2 := Aside0.mk h2
  have hw : wrap64 (((Lib.onesCount (x &&& a) : Nat) : Int) - ((Lib.onesCount (y &&& a) : Nat) : Int)) = (cnt a x : Int) - (cnt a y : Int) := by
    have l1 := cnt_le a x
    have l2 := cnt_le a y
    unfold cnt at l1 l2 ⊢
    rw [w64 (by omega) (by omega)]
  have HW := Aside0.mk hw
  have k1 : ∀ n, (W.drewN n).cell? ⟨Ba, 0, none⟩ = some (.int .u64 (a : Int)) := fun _ => hc
  clear h1 h2 e1 e2 hw ha hx hy
  generalize Lib.onesCount (x &&& a) = p at *
  generalize Lib.onesCount (y &&& a) = q at *
  go_enter Try.func92, Try.ntmps92
  go_wp2
  (go_quiet (first | (go_at_call 93; exact Calls.quiet_of ((gate_word_many.calls _ _ _ H1.out).mono (by rintro e w' ⟨rfl, nd, rfl⟩; exact ⟨rfl, nd, rfl⟩))) | (go_at_call 93; exact Calls.quiet_of ((gate_word_many.calls _ _ _ H2.out).mono (by rintro e w' ⟨rfl, nd, rfl⟩; exact ⟨rfl, nd, rfl⟩)))))
  go_wp2
  go_ret
  exact ⟨by rw [← HW.out]; rfl, _, rfl⟩
theorem min_calls (a Ba : Nat) (S : List Nat) (A : Option Addr) (c : Nat) (w : World) (ha : a < 18446744073709551616) (h64 : W64 S) (h0 : 0 < S.length) (h100 : S.length ≤ 100) (hr : Kd.C (Kd.int .u64) w A (nI S).length (nI S)) (hc : w.cell? ⟨Ba, 0, none⟩ = some (.int .u64 (a : Int))) :
    Calls Try.prog 91 #[.slice A (nI S).length c, .func (.func 92) #[] #[.pointer (some ⟨Ba, 0, none⟩)]] w fun e w' => e = .returned (.int .u64 ((pickM S a : Nat) : Int)) ∧ Below w.heap.size w w' := by
  have hnl := nI_length S
  obtain ⟨ad, ead, hx0⟩ := Kd.at_int hr 0 (by omega) (by omega)
  subst ead
  have hx : w.cell? ad = some (.int .u64 ((S.getD 0 0 : Nat) : Int)) := by
    rw [show (0 : Int) = ((0 : Nat) : Int) from rfl, rd_nI] at hx0
    simpa [Addr.add] using hx0
  have hx0' : w.cell? (ad.add 0) = some (.int .u64 ((S.getD 0 0 : Nat) : Int)) := by
    rw [show (0 : Int) = ((0 : Nat) : Int) from rfl, rd_nI] at hx0
    exact hx0
  clear hx0
  have HR := Aside0.mk hr
  have H64 := Aside0.mk h64
  have HA := Aside0.mk ha
  have HC := Aside0.mk hc
  have HPk := Aside0.mk (show pickM S a = pickTo a S (S.length - 1) from rfl)
  obtain ⟨m0, hm0⟩ : ∃ m0, S.getD 0 0 = m0 := ⟨_, rfl⟩
  rw [hm0] at hx hx0'
  have HP0 := Aside0.mk (show m0 = pickTo a S 0 from hm0.symm)
  clear hm0
  rw [hnl]
  obtain ⟨n, hn⟩ : ∃ n, S.length = n := ⟨_, rfl⟩
  have HNl := Aside0.mk (And.intro hnl hn)
  rw [hn] at h0 h100 ⊢
  have HN := Aside0.mk (And.intro h0 h100)
  have c1 : decide ((n : Int) < 1) = false := decide_eq_false (by omega)
  have c2 : decide (n < 1) = false := decide_eq_false (by omega)
  have q1 := eq_true (show (0 : Int) < (n : Int) by omega)
  have q2 := eq_true (show 0 < n by omega)
  have HB := Aside0.mk (Below.refl w.heap.size w)
  clear hr h64 ha hc hn hnl h0 h100
  go_enter Try.func91, Try.ntmps91
  go_wp2
  clear hx hx0'
  go_loopw [5, 6] (fun v5 v6 w' => ∃ i : Nat, v6 = .int .i64 ((i + 1 : Nat) : Int) ∧ v5 = .int .u64 ((pickTo a S i : Nat) : Int) ∧ Aside0 (i < n) ∧ Aside0 (Below w.heap.size w w')) (fun _ v _ => n - (intOf v).toNat)
  case atStart => exact ⟨0, rfl, by rw [HP0.out], ⟨by have := HN.out; omega⟩, HB⟩
  case round =>
    clear HB c1 c2 q1 q2
    obtain ⟨i, rfl, rfl, Hi, HB⟩ := hrel
    by_cases ct : ((i + 1 : Nat) : Int) < (n : Int)
    · have c1b : decide (((i + 1 : Nat) : Int) < (n : Int)) = true := decide_eq_true ct
      have c1c : decide (i + 1 < n) = true := decide_eq_true (by omega)
      have Hct := Aside0.mk (show i + 1 < n by omega)
      have q1 := eq_true ct
      have q2 := eq_true (show i + 1 < n by omega)
      have q3 := eq_true (show (0 : Int) ≤ ((i + 1 : Nat) : Int) by omega)
      have r := Kd.C_below HR.out HB.out
      rw [HNl.out.1, HNl.out.2] at r
      obtain ⟨ad2, e2, hx⟩ := Kd.at_int r ((i + 1 : Nat) : Int) (by omega) ct
      injection e2 with e2
      subst e2
      rw [rd_nI, Int.toNat_natCast] at hx
      have hx' := hx
      rw [show ad.add (i + 1) = ⟨ad.block, ad.off + (i + 1), none⟩ by unfold Addr.add; rw [if_neg (by omega)]] at hx'
      have c1d : decide ((i : Int) + 1 < (n : Int)) = true := decide_eq_true (by omega)
      have q4 := eq_true (show (i : Int) + 1 < (n : Int) by omega)
      have q5 := eq_true (show (0 : Int) ≤ (i : Int) + 1 by omega)
      have hpl : pickTo a S i < 18446744073709551616 := H64.out.mem (pickTo_mem a S i (by rw [HNl.out.2]; omega))
      have hL := less_calls a (S.getD (i + 1) 0) (pickTo a S i) Ba HA.out (H64.out _) hpl wr (pw_cell_below HB.out HC.out)
      have HL := Aside0.mk hL
      have hst : pickTo a S (i + 1) = if cnt a (S.getD (i + 1) 0) < cnt a (pickTo a S i) then S.getD (i + 1) 0 else pickTo a S i := rfl
      generalize S.getD (i + 1) 0 = x at *
      generalize pickTo a S i = m at *
      have l1 := cnt_le a x
      have l2 := cnt_le a m
      have hw2 : wrap64 ((i : Int) + 1 + 1) = ((i + 1 + 1 : Nat) : Int) := by rw [w64 (by have := HN.out; omega) (by have := HN.out; omega)]; omega
      have HW2 := Aside0.mk hw2
      clear r ct hpl hL hw2
      by_cases hlt : cnt a x < cnt a m
      · rw [if_pos hlt] at hst
        have HSt := Aside0.mk hst
        have e1 : decide ((cnt a x : Int) - (cnt a m : Int) < 0) = true := decide_eq_true (by omega)
        generalize (cnt a x : Int) - (cnt a m : Int) = D at *
        clear hst hlt l1 l2
        go_wp2_with (go_at_call 92; (with_reducible refine (HL.out).mono ?_); rintro e w2 ⟨rfl, ⟨nd, rfl⟩⟩; replace hx := (show (wr.drewN nd).cell? _ = _ from hx); replace hx' := (show (wr.drewN nd).cell? _ = _ from hx'))
        go_roundw
        case rel => exact ⟨i + 1, by rw [HW2.out], by rw [HSt.out], Hct, ⟨pw_below_drewN HB.out _⟩⟩
        case measure => rw [HW2.out]; have := Hct.out; simp [intOf]; omega
      · rw [if_neg hlt] at hst
        have HSt := Aside0.mk hst
        have e1 : decide ((cnt a x : Int) - (cnt a m : Int) < 0) = false := decide_eq_false (by omega)
        generalize (cnt a x : Int) - (cnt a m : Int) = D at *
        clear hst hlt l1 l2
        go_wp2_with (go_at_call 92; (with_reducible refine (HL.out).mono ?_); rintro e w2 ⟨rfl, ⟨nd, rfl⟩⟩; replace hx := (show (wr.drewN nd).cell? _ = _ from hx); replace hx' := (show (wr.drewN nd).cell? _ = _ from hx'))
        go_roundw
        case rel => exact ⟨i + 1, by rw [HW2.out], by rw [HSt.out], Hct, ⟨pw_below_drewN HB.out _⟩⟩
        case measure => rw [HW2.out]; have := Hct.out; simp [intOf]; omega
    · have c1b : decide (((i + 1 : Nat) : Int) < (n : Int)) = false := decide_eq_false ct
      have c1c : decide (i + 1 < n) = false := decide_eq_false (by omega)
      have c1d : decide ((i : Int) + 1 < (n : Int)) = false := decide_eq_false (by omega)
      have hi : n - 1 = i := by have := Hi.out; omega
      have hpk := HPk.out
      rw [HNl.out.2, hi] at hpk
      have HPk2 := Aside0.mk hpk
      clear ct hpk hi
      go_wp2
      go_ret
      exact ⟨by rw [HPk2.out]; rfl, HB.out⟩
end Go.Proofs.Ytelfalicickelaa.P
set_option linter.unusedSimpArgs false
set_option linter.unusedVariables false
namespace Go.Proofs.Ytelfalicickelaa.P
open Go.Lib Go.RowKit Go.Proofs.YtelfalicickelaaW.PrintWords Go.Proofs.YtelfalicickelaaW.PrintLast Go.Proofs.YtelfalicickelaaW.PrintMore Go.Proofs.Ytelfalicickelaa.Kit
theorem without_len (S : List Nat) (v : Nat) : (GT.without S v).length ≤ S.length := List.length_filter_le _ _
set_option maxHeartbeats 8000000
set_option maxRecDepth 100000
theorem can_calls (a : Nat) (ha : a < 18446744073709551616) : ∀ (m : Nat), m ≤ 1000 → ∀ (S : List Nat) (A : Option Addr) (c : Nat) (w : World), W64 S → S.length ≤ 100 → Kd.C (Kd.int .u64) w A (nI S).length (nI S) →
    Calls Try.prog 62 #[.slice A (nI S).length c, .int .u64 (a : Int), .int .i64 (m : Int)] w fun e w' => e = .returned (.bool (GT.canP pickM a m S)) ∧ Below w.heap.size w w' := by
  intro m
  induction m with
  | zero =>
    intro _ S A c w h64 h100 hr
    have hnl := nI_length S
    obtain ⟨n, hn⟩ : ∃ n, S.length = n := ⟨_, rfl⟩
    rw [hnl, hn]
    have HB := Aside0.mk (Below.refl w.heap.size w)
    by_cases h0 : n = 0
    · have hS : S = [] := List.length_eq_zero_iff.1 (by omega)
      have HE := Aside0.mk (show GT.canP pickM a 0 S = true by rw [hS]; rfl)
      subst h0
      clear hr h64 h100 hnl hn hS
      go_enter Try.func62, Try.ntmps62
      go_wp2
      go_ret
      exact ⟨by rw [HE.out]; rfl, below_alloc HB.out _⟩
    · have HE := Aside0.mk (show GT.canP pickM a 0 S = false by
        unfold GT.canP
        cases S with
        | nil => exact absurd hn.symm h0
        | cons x S => rfl)
      have e1 : ((n : Int) == 0) = false := beq_eq_false_iff_ne.2 (by omega)
      have e2 : (n == 0) = false := beq_eq_false_iff_ne.2 (by omega)
      clear hr h64 h100 hnl hn h0
      go_enter Try.func62, Try.ntmps62
      go_wp2
      go_ret
      exact ⟨by rw [HE.out]; rfl, below_alloc HB.out _⟩
  | succ m ih =>
    intro hm S A c w h64 h100 hr
    have hnl := nI_length S
    have HB := Aside0.mk (Below.refl w.heap.size w)
    by_cases h0 : S.length = 0
    · have hS : S = [] := List.length_eq_zero_iff.1 (by omega)
      have HE := Aside0.mk (show GT.canP pickM a (m + 1) S = true by rw [hS]; rfl)
      have hn0 : (nI S).length = 0 := by omega
      rw [hn0]
      clear hr h64 h100 hnl h0 hS ih hn0
      go_enter Try.func62, Try.ntmps62
      go_wp2
      go_ret
      exact ⟨by rw [HE.out]; rfl, below_alloc HB.out _⟩
    · obtain ⟨w1, hw1⟩ : ∃ w1, w.alloc (.cells #[.int .u64 (a : Int)] 74) = w1 := ⟨_, rfl⟩
      have hb1 : Below w.heap.size w w1 := by rw [← hw1]; exact below_alloc (Below.refl _ _) _
      have hca : w1.cell? ⟨w.heap.size, 0, none⟩ = some (.int .u64 (a : Int)) := by rw [← hw1]; exact cell_new _ _ _ 0 rfl
      have HMi := Aside0.mk (min_calls a w.heap.size S A c w1 ha h64 (by omega) h100 (Kd.C_below hr hb1) hca)
      have hpm := pickM_mem S a (fun e => h0 (by rw [e]; rfl))
      have hpl : pickM S a &&& a < 18446744073709551616 := and_lt64 (h64.mem hpm) ha
      have hmf := members_f (pickM S a &&& a) hpl 65 (by omega)
      have hand := andu64 (pickM S a) a (h64.mem hpm) ha
      rw [← hand] at hmf
      have HMf := Aside0.mk hmf
      have hcp : GT.canP pickM a (m + 1) S = (GT.memb (pickM S a &&& a)).any fun v => GT.canP pickM a m (GT.without S v) := by
        show (S.isEmpty || _) = _
        rw [show S.isEmpty = false by cases S with | nil => exact absurd rfl h0 | cons x S => rfl, Bool.false_or]
      have hml : ∀ v, v ∈ GT.memb (pickM S a &&& a) → v ≤ 63 := fun v hv => by
        have := (List.mem_filter.1 hv).1
        rw [List.mem_range] at this
        omega
      have hmlen : (GT.memb (pickM S a &&& a)).length ≤ 64 := by
        unfold GT.memb
        refine Nat.le_trans (List.length_filter_le _ _) ?_
        rw [List.length_range]
        exact Nat.le_refl _
      rw [hcp]
      have HW := Aside0.mk (fun v (hv : v ≤ 63) W (hb : Below w.heap.size w W) => without_calls A c S v W hv h64 (by omega) h100 (Kd.C_below hr hb))
      have HIh := Aside0.mk (fun v A' c' W hr' => ih (by omega) (GT.without S v) A' c' W (without_W64 h64 v) (Nat.le_trans (without_len S v) h100) hr')
      unfold membI at HMf
      generalize GT.memb (pickM S a &&& a) = ms at *
      have e1 : (((nI S).length : Int) == 0) = false := beq_eq_false_iff_ne.2 (by omega)
      have e2 : ((nI S).length == 0) = false := beq_eq_false_iff_ne.2 (by omega)
      have e3 : (((m + 1 : Nat) : Int) == 0) = false := beq_eq_false_iff_ne.2 (by omega)
      have e4 : ((m : Int) + 1 == 0) = false := beq_eq_false_iff_ne.2 (by omega)
      have hwm : wrap64 ((m : Int) + 1 - 1) = (m : Int) := by rw [w64 (by omega) (by omega)]; omega
      have HWm := Aside0.mk hwm
      have HWi := Aside0.mk (show IntKind.i64.wrap (m : Int) = (m : Int) by rw [IntKind.wrap_i64]; omega)
      have HMl := Aside0.mk (And.intro hml hmlen)
      have HB1 := Aside0.mk hb1
      have HCa := Aside0.mk hca
      clear hr h64 h100 hnl h0 ih hpm hpl hmf hand hcp hml hmlen hwm hb1 hca
      go_enter Try.func62, Try.ntmps62
      rw [← hw1] at *
      go_wp2_with (first | (go_at_call 91; (with_reducible refine (HMi.out).mono ?_); rintro e w2 ⟨rfl, hb⟩; have hc2 := pw_cell_below hb HCa.out; have HB2 := Aside0.mk (HB1.out.trans (hb.mono HB1.out.size)); clear hb) | (go_at_call 68; (with_reducible refine (gate_members.calls 65 _ _ _ HMf.out).mono ?_); rintro e w3 ⟨v3, rfl, hR, hb⟩; obtain ⟨A3, c3, rfl⟩ := Kd.R_slice hR; have HR3 := Aside0.mk (Kd.R_reads' hR); have HC3 := Aside0.mk (pw_cell_below hb hc2); have HB3 := Aside0.mk (HB2.out.trans (hb.mono HB2.out.size)); clear hR hb))
      have hlm : (List.map (fun (j : Nat) => (j : Int)) ms).length = ms.length := List.length_map ..
      have HLm := Aside0.mk hlm
      obtain ⟨n, hn⟩ : ∃ n, ms.length = n := ⟨_, rfl⟩
      (try rw [hn])
      have HNn := Aside0.mk hn
      have HBw := Aside0.mk (Below.refl w3.heap.size w3)
      have HA0 := Aside0.mk (show (ms.take 0).any (fun v => GT.canP pickM a m (GT.without S v)) = false from rfl)
      clear hc2 hlm hn
      go_loopw [23] (fun v23 w' => ∃ i : Nat, v23 = .int .i64 (i : Int) ∧ Aside0 (i ≤ n) ∧ Aside0 ((ms.take i).any (fun v => GT.canP pickM a m (GT.without S v)) = false) ∧ Aside0 (Below w3.heap.size w3 w')) (fun v _ => n - (intOf v).toNat)
      case atStart => exact ⟨0, rfl, ⟨Nat.zero_le _⟩, HA0, HBw⟩
      case round =>
        clear HBw HA0
        obtain ⟨i, rfl, Hi, HAn, HBw⟩ := hrel
        by_cases ct : (i : Int) < (n : Int)
        · have c1b : decide ((i : Int) < (n : Int)) = true := decide_eq_true ct
          have c1c : decide (i < n) = true := decide_eq_true (by omega)
          have hi : i < ms.length := by have := HNn.out; omega
          have Hct := Aside0.mk (show i < n by omega)
          have q1 := eq_true ct
          have q2 := eq_true (show i < n by omega)
          have q3 := eq_true (show (0 : Int) ≤ (i : Int) by omega)
          have r := Kd.C_below HR3.out.2.2 HBw.out
          rw [HLm.out, HNn.out] at r
          obtain ⟨ad, e3', hx⟩ := Kd.at_int r (i : Int) (by omega) ct
          subst e3'
          have hv : rd (List.map (fun (j : Nat) => (j : Int)) ms) (i : Int) = ((ms[i] : Nat) : Int) := by
            rw [rd_get _ _ (by rw [List.length_map]; exact hi), List.getElem_map]
          rw [hv, Int.toNat_natCast] at hx
          have hv63 := HMl.out.1 ms[i] (List.getElem_mem hi)
          have hts : (ms.take (i + 1)).any (fun v => GT.canP pickM a m (GT.without S v)) = GT.canP pickM a m (GT.without S ms[i]) := by
            rw [List.take_succ_eq_append_getElem hi, List.any_append, HAn.out, Bool.false_or]
            simp
          have hall : GT.canP pickM a m (GT.without S ms[i]) = true → ms.any (fun v => GT.canP pickM a m (GT.without S v)) = true := fun h => List.any_eq_true.2 ⟨ms[i], List.getElem_mem hi, h⟩
          have hWo := HW.out ms[i] hv63
          have HBz := Aside0.mk (HB3.out.trans (HBw.out.mono HB3.out.size))
          have hIh := HIh.out ms[i]
          have hca := pw_cell_below HBw.out HC3.out
          generalize ms[i] = v at *
          obtain ⟨b, hb⟩ : ∃ b, GT.canP pickM a m (GT.without S v) = b := ⟨_, rfl⟩
          rw [hb] at hts hall
          simp only [hb] at hIh
          have HWo := Aside0.mk hWo
          have HIh2 := Aside0.mk hIh
          generalize nI (GT.without S v) = R at *
          have HBr := Aside0.mk (Below.refl wr.heap.size wr)
          have hsub : wrap64 (((m + 1 : Nat) : Int) - 1) = (m : Int) := by have := HWm.out; exact this
          go_wp2
          cases b with
          | true =>
            have HAl := Aside0.mk (hall rfl)
            clear hts hall hWo hIh ct r hi hv hv63 hb hsub
            go_region_held3 (fun w' => w'.cell? ⟨w.heap.size, 0, none⟩ = some (.int .u64 (a : Int))) (first | exact hca | exact hc4 | exact hc5 | go_keep) (first | (go_at_call 64; (with_reducible refine (HWo.out _ (below_drew1 HBz.out)).mono ?_); rintro e w4 ⟨A4, c4, rfl, hr4, hl4, hb4⟩; have hc4 := pw_cell_below hb4 (show wr.drew.cell? ⟨w.heap.size, 0, none⟩ = some (.int .u64 (a : Int)) from hca); have HR4 := Aside0.mk hr4; have HB4 := Aside0.mk hb4; clear hr4 hl4 hb4) | (go_at_call 62; rw [HWi.out]; (with_reducible refine (HIh2.out _ _ _ HR4.out).mono ?_); rintro e w5 ⟨rfl, hb5⟩; have hc5 := pw_cell_below hb5 hc4; have HB5 := Aside0.mk hb5; clear hb5))
            all_goals
              go_wp2
              go_ret
              exact ⟨by rw [HAl.out]; rfl, HBz.out.trans (Below.mono ((below_drew1 HBr.out).trans (Below.mono (HB4.out.trans (Below.mono HB5.out HB4.out.size)) (Nat.le_refl _))) HBz.out.size)⟩
          | false =>
            have HAn2 := Aside0.mk hts
            clear hts hall hWo hIh ct r hi hv hv63 hb hsub HAn
            go_region_held3 (fun w' => w'.cell? ⟨w.heap.size, 0, none⟩ = some (.int .u64 (a : Int))) (first | exact hca | exact hc4 | exact hc5 | go_keep) (first | (go_at_call 64; (with_reducible refine (HWo.out _ (below_drew1 HBz.out)).mono ?_); rintro e w4 ⟨A4, c4, rfl, hr4, hl4, hb4⟩; have hc4 := pw_cell_below hb4 (show wr.drew.cell? ⟨w.heap.size, 0, none⟩ = some (.int .u64 (a : Int)) from hca); have HR4 := Aside0.mk hr4; have HB4 := Aside0.mk hb4; clear hr4 hl4 hb4) | (go_at_call 62; rw [HWi.out]; (with_reducible refine (HIh2.out _ _ _ HR4.out).mono ?_); rintro e w5 ⟨rfl, hb5⟩; have hc5 := pw_cell_below hb5 hc4; have HB5 := Aside0.mk hb5; clear hb5))
            all_goals
              go_wp2
              have HBn := Aside0.mk (show Below w3.heap.size w3 w5 from HBw.out.trans (Below.mono ((below_drew1 HBr.out).trans (Below.mono (HB4.out.trans (Below.mono HB5.out HB4.out.size)) (Nat.le_refl _))) HBw.out.size))
              go_roundw
              case rel => exact ⟨i + 1, by rw [w64 (by have := Hct.out; have := HMl.out.2; have := HNn.out; omega) (by have := Hct.out; have := HMl.out.2; have := HNn.out; omega)]; rfl, ⟨Hct.out⟩, HAn2, HBn⟩
              case measure => rw [w64 (by have := Hct.out; have := HMl.out.2; have := HNn.out; omega) (by have := Hct.out; have := HMl.out.2; have := HNn.out; omega)]; have := Hct.out; simp [intOf]; omega
        · have c1b : decide ((i : Int) < (n : Int)) = false := decide_eq_false ct
          have c1c : decide (i < n) = false := decide_eq_false (by omega)
          have hal : ms.any (fun v => GT.canP pickM a m (GT.without S v)) = false := by
            have h := HAn.out
            rwa [List.take_of_length_le (by have := HNn.out; omega)] at h
          have HAl := Aside0.mk hal
          clear ct hal
          go_wp2
          go_ret
          exact ⟨by rw [HAl.out]; rfl, HB3.out.trans (HBw.out.mono HB3.out.size)⟩
end Go.Proofs.Ytelfalicickelaa.P
namespace Go.Proofs.Ytelfalicickelaa.P
open Go.RowKit Go.Proofs.YtelfalicickelaaW.PrintWords Go.Proofs.YtelfalicickelaaW.PrintLast Go.Proofs.YtelfalicickelaaW.PrintMore
attribute [local go_sem] max2_int max_two
set_option linter.unusedVariables false
set_option linter.unusedSimpArgs false
mutual
def gate_lean.l0 : Nat → List Int → List Int → List Int → Int → Int → Option (List Int)
  | 0, _, _, _, _, _ => none
  | k + 1, x0, x3, x9, x10, x11 => if x11 < x10 then (if 0 ≤ x11 then (if x11 < (x9.length : Int) then (gate_lean.l1 k x0 x3 x11 (rd x9 x11) false x9 x10 x11 x0 (x0.length : Int) 0) else (none)) else (none)) else (some x3)
def gate_lean.l1 : Nat → List Int → List Int → Int → Int → Bool → List Int → Int → Int → List Int → Int → Int → Option (List Int)
  | 0, _, _, _, _, _, _, _, _, _, _, _ => none
  | k + 1, x0, x3, x4, x5, x6, x9, x10, x11, x16, x17, x18 => if x18 < x17 then (if 0 ≤ x18 then (if x18 < (x16.length : Int) then (if x6 = true then (gate_lean.l1 k x0 x3 x4 x5 true x9 x10 x11 x16 x17 (wrap64 (x18 + 1))) else (if x4 = x18 then (gate_lean.l1 k x0 x3 x4 x5 false x9 x10 x11 x16 x17 (wrap64 (x18 + 1))) else (if (Go.bits .andNot .u64 (rd x16 x18) x5) = 0 then (if (rd x16 x18) = x5 then (gate_lean.l1 k x0 x3 x4 x5 (decide (x18 < x4)) x9 x10 x11 x16 x17 (wrap64 (x18 + 1))) else (gate_lean.l1 k x0 x3 x4 x5 true x9 x10 x11 x16 x17 (wrap64 (x18 + 1)))) else (gate_lean.l1 k x0 x3 x4 x5 false x9 x10 x11 x16 x17 (wrap64 (x18 + 1)))))) else (none)) else (none)) else (if x6 = true then (gate_lean.l0 k x0 x3 x9 x10 (wrap64 (x11 + 1))) else (if x3.length < 17592186044416 then (gate_lean.l0 k x0 (x3 ++ [x5]) x9 x10 (wrap64 (x11 + 1))) else (none)))
end
def gate_lean.f (k : Nat) (l0 : List Int) : Option (List Int) := gate_lean.l0 k l0 ([] : List Int) l0 (l0.length : Int) 0
set_option maxHeartbeats 8000000 in
set_option maxRecDepth 100000 in
theorem gate_lean.calls (k : Nat) (A0 : Option Addr) (c0 : Nat) (l0 : List Int) (r : List Int) (w : World) (hr0 : Kd.C (Kd.int .u64) w A0 l0.length l0) (hc0 : l0.length ≤ c0) (h : gate_lean.f k l0 = some r) :
    Calls Try.prog 61 #[.slice A0 l0.length c0] w fun e w' => ∃ v0_ : Value, e = .returned (v0_) ∧ Kd.R (Kd.int .u64) 74 w' w.heap.size (fun _ => True) v0_ r ∧ Below w.heap.size w w' := by
  have HR0 := Aside0.mk hr0
  have HC0 := Aside0.mk hc0
  clear hr0 hc0
  have HB := Aside0.mk (Below.refl w.heap.size w)
  have H : (gate_lean.l0 k l0 ([] : List Int) l0 (l0.length : Int) 0) = some r := h
  clear h
  have H' := Aside0.mk H
  clear H
  go_enter Try.func61, Try.ntmps61
  go_wp2
  go_loopg [3, 11] k (fun kq v3 v11 w' => ∃ (x3_1 : List Int) (x11_1 : Int), v11 = .int .i64 x11_1 ∧ Aside0 (gate_lean.l0 kq l0 x3_1 l0 (l0.length : Int) x11_1 = some r) ∧ Aside0 (kq ≤ k) ∧ Aside0 (Kd.R (Kd.int .u64) 74 w' w.heap.size (fun _ => True) v3 x3_1) ∧ Aside0 (Below w.heap.size w w'))
  case atStart => exact ⟨(([] : List Int)), (0), (by first | rfl | (simp; done) | (simp [*]; done)), H', ⟨Nat.le_refl _⟩, ⟨by first | exact Kd.R_nil _ _ _ _ _ | exact Kd.N_nil _ _ _ _ _ | exact Kd.V_nil _ _ _ _ _ | exact Kd.Q_nil _ _ _ _ _ | exact Kd.S_nil _ _ _ _ _⟩, ⟨by repeat (first | (with_reducible first | exact HB.out | apply below_alloc | apply pw_below_drewN | apply below_drew1) | exact HB.out)⟩⟩
  case round =>
    clear H'
    obtain ⟨x3_1, x11_1, rfl, HA, HK1, HO_3, HB⟩ := hrel
    cases gk with
    | zero => exact absurd HA.out (by simp [gate_lean.l0])
    | succ k1 =>
      have H := HA.out
      clear HA
      simp only [gate_lean.l0] at H
      by_cases c2 : x11_1 < (l0.length : Int)
      · rw [if_pos c2] at H
        have c2b0 : decide (x11_1 < (l0.length : Int)) = true := decide_eq_true c2
        clear c2
        by_cases c3 : 0 ≤ x11_1
        · rw [if_pos c3] at H
          have c3b0 : decide (0 ≤ x11_1) = true := decide_eq_true c3
          clear c3
          by_cases c4 : x11_1 < (l0.length : Int)
          · rw [if_pos c4] at H
            have c4b0 : decide (x11_1 < (l0.length : Int)) = true := decide_eq_true c4
            clear c4
            have H' := Aside0.mk H
            clear H
            have p105 : 0 ≤ (x11_1 : Int) := of_decide_eq_true (by first | (with_reducible assumption) | assumption)
            have q105 : x11_1 < (l0.length : Int) := of_decide_eq_true (by first | (with_reducible assumption) | assumption)
            obtain ⟨ad105, e105, hx105_0⟩ := Kd.at_int HR0.out x11_1 p105 q105
            cases e105
            replace hx105_0 := (HB.out.cell (World.block_lt_of_cell? w _ hx105_0)).trans hx105_0
            replace p105 := eq_true p105
            replace q105 := eq_true q105
            go_wp2
            go_loopg [6, 18] k1 (fun kq v6 v18 w' => ∃ (x6_2 : Bool) (x18_2 : Int), v6 = .bool x6_2 ∧ v18 = .int .i64 x18_2 ∧ Aside0 (gate_lean.l1 kq l0 x3_1 x11_1 (rd l0 x11_1) x6_2 l0 (l0.length : Int) x11_1 l0 (l0.length : Int) x18_2 = some r) ∧ Aside0 (kq ≤ k1) ∧ Aside0 (Kd.R (Kd.int .u64) 74 w' w.heap.size (fun _ => True) u3 x3_1) ∧ Aside0 (Below w.heap.size w w'))
            case atStart => exact ⟨(false), (0), (by first | rfl | (simp; done) | (simp [*]; done)), (by first | rfl | (simp; done) | (simp [*]; done)), H', ⟨Nat.le_refl _⟩, ⟨by (with_reducible repeat (first | apply Kd.R_alloc | apply Kd.R_drewN | apply Kd.R_drew)); first | exact HO_3.out | exact Kd.R_mono HO_3.out (fun k_ h_ => ne_own_len h_)⟩, ⟨by repeat (first | (with_reducible first | exact HB.out | apply below_alloc | apply pw_below_drewN | apply below_drew1) | exact HB.out)⟩⟩
            case round =>
              clear H'
              try clear p1
              try clear q1
              try clear hx1
              try clear c2
              try clear c2b0
              try clear p2
              try clear c3
              try clear c3b0
              try clear c4
              try clear c4b0
              try clear hx105_0
              try clear p105
              try clear q105
              obtain ⟨x6_2, x18_2, rfl, rfl, HA, HK2, HO_3, HB⟩ := hrel
              cases gk with
              | zero => exact absurd HA.out (by simp [gate_lean.l1])
              | succ k2 =>
                have H := HA.out
                clear HA
                simp only [gate_lean.l1] at H
                by_cases c5 : x18_2 < (l0.length : Int)
                · rw [if_pos c5] at H
                  have c5b0 : decide (x18_2 < (l0.length : Int)) = true := decide_eq_true c5
                  clear c5
                  by_cases c6 : 0 ≤ x18_2
                  · rw [if_pos c6] at H
                    have c6b0 : decide (0 ≤ x18_2) = true := decide_eq_true c6
                    clear c6
                    by_cases c7 : x18_2 < (l0.length : Int)
                    · rw [if_pos c7] at H
                      have c7b0 : decide (x18_2 < (l0.length : Int)) = true := decide_eq_true c7
                      clear c7
                      by_cases c8 : x6_2 = true
                      · subst c8
                        have H1 : (gate_lean.l1 k2 l0 x3_1 x11_1 (rd l0 x11_1) true l0 (l0.length : Int) x11_1 l0 (l0.length : Int) (wrap64 (x18_2 + 1))) = some r := by rw [if_pos rfl] at H; exact H
                        clear H
                        have H := H1
                        clear H1
                        have H' := Aside0.mk H
                        clear H
                        have p106 : 0 ≤ (x18_2 : Int) := of_decide_eq_true (by first | (with_reducible assumption) | assumption)
                        have q106 : x18_2 < (l0.length : Int) := of_decide_eq_true (by first | (with_reducible assumption) | assumption)
                        obtain ⟨ad106, e106, hx106_0⟩ := Kd.at_int HR0.out x18_2 p106 q106
                        obtain rfl : ad105 = ad106 := (by injection e106)
                        replace hx106_0 := (HB.out.cell (World.block_lt_of_cell? w _ hx106_0)).trans hx106_0
                        replace p106 := eq_true p106
                        replace q106 := eq_true q106
                        go_wp2
                        go_roundg k2
                        case measure => have := HK1.out; have := HK2.out; omega
                        case rel => exact ⟨(true), (wrap64 (x18_2 + 1)), (by first | rfl | (simp; done) | (simp [*]; done)), (by first | rfl | (simp; done) | (simp [*]; done)), H', ⟨by have := HK1.out; have := HK2.out; omega⟩, ⟨by (with_reducible repeat (first | apply Kd.R_alloc | apply Kd.R_drewN | apply Kd.R_drew)); first | exact HO_3.out | exact Kd.R_mono HO_3.out (fun k_ h_ => ne_own_len h_)⟩, ⟨by repeat (first | (with_reducible first | exact HB.out | apply below_alloc | apply pw_below_drewN | apply below_drew1) | exact HB.out)⟩⟩
                      · replace c8 := Bool.eq_false_iff.mpr c8
                        subst c8
                        have H1 : (if x11_1 = x18_2 then (gate_lean.l1 k2 l0 x3_1 x11_1 (rd l0 x11_1) false l0 (l0.length : Int) x11_1 l0 (l0.length : Int) (wrap64 (x18_2 + 1))) else (if (Go.bits .andNot .u64 (rd l0 x18_2) (rd l0 x11_1)) = 0 then (if (rd l0 x18_2) = (rd l0 x11_1) then (gate_lean.l1 k2 l0 x3_1 x11_1 (rd l0 x11_1) (decide (x18_2 < x11_1)) l0 (l0.length : Int) x11_1 l0 (l0.length : Int) (wrap64 (x18_2 + 1))) else (gate_lean.l1 k2 l0 x3_1 x11_1 (rd l0 x11_1) true l0 (l0.length : Int) x11_1 l0 (l0.length : Int) (wrap64 (x18_2 + 1)))) else (gate_lean.l1 k2 l0 x3_1 x11_1 (rd l0 x11_1) false l0 (l0.length : Int) x11_1 l0 (l0.length : Int) (wrap64 (x18_2 + 1))))) = some r := by rw [if_neg (show ¬ (false = true) by decide)] at H; exact H
                        clear H
                        have H := H1
                        clear H1
                        by_cases c9 : x11_1 = x18_2
                        · rw [if_pos c9] at H
                          have c9b0 : (x11_1 == x18_2) = true := beq_iff_eq.mpr c9
                          have c9b1 : (x11_1 != x18_2) = false := bne_eq_false_iff_eq.mpr c9
                          clear c9
                          have H' := Aside0.mk H
                          clear H
                          have p106 : 0 ≤ (x18_2 : Int) := of_decide_eq_true (by first | (with_reducible assumption) | assumption)
                          have q106 : x18_2 < (l0.length : Int) := of_decide_eq_true (by first | (with_reducible assumption) | assumption)
                          obtain ⟨ad106, e106, hx106_0⟩ := Kd.at_int HR0.out x18_2 p106 q106
                          obtain rfl : ad105 = ad106 := (by injection e106)
                          replace hx106_0 := (HB.out.cell (World.block_lt_of_cell? w _ hx106_0)).trans hx106_0
                          replace p106 := eq_true p106
                          replace q106 := eq_true q106
                          go_wp2
                          go_roundg k2
                          case measure => have := HK1.out; have := HK2.out; omega
                          case rel => exact ⟨(false), (wrap64 (x18_2 + 1)), (by first | rfl | (simp; done) | (simp [*]; done)), (by first | rfl | (simp; done) | (simp [*]; done)), H', ⟨by have := HK1.out; have := HK2.out; omega⟩, ⟨by (with_reducible repeat (first | apply Kd.R_alloc | apply Kd.R_drewN | apply Kd.R_drew)); first | exact HO_3.out | exact Kd.R_mono HO_3.out (fun k_ h_ => ne_own_len h_)⟩, ⟨by repeat (first | (with_reducible first | exact HB.out | apply below_alloc | apply pw_below_drewN | apply below_drew1) | exact HB.out)⟩⟩
                        · rw [if_neg c9] at H
                          have c9b0 : (x11_1 == x18_2) = false := beq_eq_false_iff_ne.mpr c9
                          have c9b1 : (x11_1 != x18_2) = true := bne_iff_ne.mpr c9
                          by_cases c10 : (Go.bits .andNot .u64 (rd l0 x18_2) (rd l0 x11_1)) = 0
                          · rw [if_pos c10] at H
                            have c10b0 : ((Go.bits .andNot .u64 (rd l0 x18_2) (rd l0 x11_1)) == 0) = true := beq_iff_eq.mpr c10
                            have c10b1 : ((Go.bits .andNot .u64 (rd l0 x18_2) (rd l0 x11_1)) != 0) = false := bne_eq_false_iff_eq.mpr c10
                            clear c10
                            by_cases c11 : (rd l0 x18_2) = (rd l0 x11_1)
                            · rw [if_pos c11] at H
                              have c11b0 : ((rd l0 x18_2) == (rd l0 x11_1)) = true := beq_iff_eq.mpr c11
                              have c11b1 : ((rd l0 x18_2) != (rd l0 x11_1)) = false := bne_eq_false_iff_eq.mpr c11
                              clear c11
                              have H' := Aside0.mk H
                              clear H
                              have p106 : 0 ≤ (x18_2 : Int) := of_decide_eq_true (by first | (with_reducible assumption) | assumption)
                              have q106 : x18_2 < (l0.length : Int) := of_decide_eq_true (by first | (with_reducible assumption) | assumption)
                              obtain ⟨ad106, e106, hx106_0⟩ := Kd.at_int HR0.out x18_2 p106 q106
                              obtain rfl : ad105 = ad106 := (by injection e106)
                              replace hx106_0 := (HB.out.cell (World.block_lt_of_cell? w _ hx106_0)).trans hx106_0
                              replace p106 := eq_true p106
                              replace q106 := eq_true q106
                              go_wp2
                              go_roundg k2
                              case measure => have := HK1.out; have := HK2.out; omega
                              case rel => exact ⟨(decide (x18_2 < x11_1)), (wrap64 (x18_2 + 1)), (by first | rfl | (simp; done) | (simp [*]; done)), (by first | rfl | (simp; done) | (simp [*]; done)), H', ⟨by have := HK1.out; have := HK2.out; omega⟩, ⟨by (with_reducible repeat (first | apply Kd.R_alloc | apply Kd.R_drewN | apply Kd.R_drew)); first | exact HO_3.out | exact Kd.R_mono HO_3.out (fun k_ h_ => ne_own_len h_)⟩, ⟨by repeat (first | (with_reducible first | exact HB.out | apply below_alloc | apply pw_below_drewN | apply below_drew1) | exact HB.out)⟩⟩
                            · rw [if_neg c11] at H
                              have c11b0 : ((rd l0 x18_2) == (rd l0 x11_1)) = false := beq_eq_false_iff_ne.mpr c11
                              have c11b1 : ((rd l0 x18_2) != (rd l0 x11_1)) = true := bne_iff_ne.mpr c11
                              have H' := Aside0.mk H
                              clear H
                              have p106 : 0 ≤ (x18_2 : Int) := of_decide_eq_true (by first | (with_reducible assumption) | assumption)
                              have q106 : x18_2 < (l0.length : Int) := of_decide_eq_true (by first | (with_reducible assumption) | assumption)
                              obtain ⟨ad106, e106, hx106_0⟩ := Kd.at_int HR0.out x18_2 p106 q106
                              obtain rfl : ad105 = ad106 := (by injection e106)
                              replace hx106_0 := (HB.out.cell (World.block_lt_of_cell? w _ hx106_0)).trans hx106_0
                              replace p106 := eq_true p106
                              replace q106 := eq_true q106
                              go_wp2
                              go_roundg k2
                              case measure => have := HK1.out; have := HK2.out; omega
                              case rel => exact ⟨(true), (wrap64 (x18_2 + 1)), (by first | rfl | (simp; done) | (simp [*]; done)), (by first | rfl | (simp; done) | (simp [*]; done)), H', ⟨by have := HK1.out; have := HK2.out; omega⟩, ⟨by (with_reducible repeat (first | apply Kd.R_alloc | apply Kd.R_drewN | apply Kd.R_drew)); first | exact HO_3.out | exact Kd.R_mono HO_3.out (fun k_ h_ => ne_own_len h_)⟩, ⟨by repeat (first | (with_reducible first | exact HB.out | apply below_alloc | apply pw_below_drewN | apply below_drew1) | exact HB.out)⟩⟩
                          · rw [if_neg c10] at H
                            have c10b0 : ((Go.bits .andNot .u64 (rd l0 x18_2) (rd l0 x11_1)) == 0) = false := beq_eq_false_iff_ne.mpr c10
                            have c10b1 : ((Go.bits .andNot .u64 (rd l0 x18_2) (rd l0 x11_1)) != 0) = true := bne_iff_ne.mpr c10
                            have H' := Aside0.mk H
                            clear H
                            have p106 : 0 ≤ (x18_2 : Int) := of_decide_eq_true (by first | (with_reducible assumption) | assumption)
                            have q106 : x18_2 < (l0.length : Int) := of_decide_eq_true (by first | (with_reducible assumption) | assumption)
                            obtain ⟨ad106, e106, hx106_0⟩ := Kd.at_int HR0.out x18_2 p106 q106
                            obtain rfl : ad105 = ad106 := (by injection e106)
                            replace hx106_0 := (HB.out.cell (World.block_lt_of_cell? w _ hx106_0)).trans hx106_0
                            replace p106 := eq_true p106
                            replace q106 := eq_true q106
                            go_wp2
                            go_roundg k2
                            case measure => have := HK1.out; have := HK2.out; omega
                            case rel => exact ⟨(false), (wrap64 (x18_2 + 1)), (by first | rfl | (simp; done) | (simp [*]; done)), (by first | rfl | (simp; done) | (simp [*]; done)), H', ⟨by have := HK1.out; have := HK2.out; omega⟩, ⟨by (with_reducible repeat (first | apply Kd.R_alloc | apply Kd.R_drewN | apply Kd.R_drew)); first | exact HO_3.out | exact Kd.R_mono HO_3.out (fun k_ h_ => ne_own_len h_)⟩, ⟨by repeat (first | (with_reducible first | exact HB.out | apply below_alloc | apply pw_below_drewN | apply below_drew1) | exact HB.out)⟩⟩
                    · rw [if_neg c7] at H
                      exact absurd H (by simp)
                  · rw [if_neg c6] at H
                    exact absurd H (by simp)
                · rw [if_neg c5] at H
                  have c5b0 : decide (x18_2 < (l0.length : Int)) = false := decide_eq_false c5
                  clear c5
                  by_cases c12 : x6_2 = true
                  · subst c12
                    have H1 : (gate_lean.l0 k2 l0 x3_1 l0 (l0.length : Int) (wrap64 (x11_1 + 1))) = some r := by rw [if_pos rfl] at H; exact H
                    clear H
                    have H := H1
                    clear H1
                    have H' := Aside0.mk H
                    clear H
                    go_wp2
                    go_roundg k2
                    case measure => have := HK1.out; have := HK2.out; omega
                    case rel => exact ⟨(x3_1), (wrap64 (x11_1 + 1)), (by first | rfl | (simp; done) | (simp [*]; done)), H', ⟨by have := HK1.out; have := HK2.out; omega⟩, ⟨by (with_reducible repeat (first | apply Kd.R_alloc | apply Kd.R_drewN | apply Kd.R_drew)); first | exact HO_3.out | exact Kd.R_mono HO_3.out (fun k_ h_ => ne_own_len h_)⟩, ⟨by repeat (first | (with_reducible first | exact HB.out | apply below_alloc | apply pw_below_drewN | apply below_drew1) | exact HB.out)⟩⟩
                  · replace c12 := Bool.eq_false_iff.mpr c12
                    subst c12
                    have H1 : (if x3_1.length < 17592186044416 then (gate_lean.l0 k2 l0 (x3_1 ++ [(rd l0 x11_1)]) l0 (l0.length : Int) (wrap64 (x11_1 + 1))) else (none)) = some r := by rw [if_neg (show ¬ (false = true) by decide)] at H; exact H
                    clear H
                    have H := H1
                    clear H1
                    by_cases c13 : x3_1.length < 17592186044416
                    · rw [if_pos c13] at H
                      have LMc13 := Aside0.mk c13
                      clear c13
                      obtain ⟨y107, hy107⟩ : ∃ y_ : List Int, y_ = (x3_1 ++ [(rd l0 x11_1)]) := ⟨_, rfl⟩
                      replace H : (gate_lean.l0 k2 l0 y107 l0 (l0.length : Int) (wrap64 (x11_1 + 1))) = some r := by first | (rw [hy107]; with_reducible exact H) | (have H2_ := (Option.bind_some _ _).symm.trans H; rw [hy107]; with_reducible exact H2_) | (have H2_ := (Option.bind_some _ _).symm.trans H; with_reducible exact H2_) | with_reducible exact H | (rw [hy107]; exact H) | exact H
                      have Ny107 := Aside0.mk hy107
                      clear hy107
                      have H' := Aside0.mk H
                      clear H
                      go_wp2_with (first | ((with_reducible refine gate_builtin (b := .append) (xs := #[.tmp 48, .tmp 50]) rfl ?_); at_builtin; refine Kd.R_append (Kd.int .u64) (w0 := w) w.heap.size rfl (.tmp 48) (.tmp 50) 72 74 (.int .u64 0) 8 rfl Try.underlying72 info74 rfl (by decide) (by omega) u3 x3_1 (rd l0 x11_1) [.int .u64 (rd l0 x11_1)] (fun _ => True) (fun _ => False) rfl rfl ?aP (fun _ hk => hk.elim) ?aF ?aO ?aB ?aS ?aL ?_; (case aP => exact rfl); (case aB => exact (by repeat (first | (with_reducible first | exact HB.out | apply below_alloc | apply pw_below_drewN | apply below_drew1) | exact HB.out))); (case aF => exact (fun _ _ => trivial)); (case aO => exact (by (with_reducible repeat (first | apply Kd.R_alloc | apply Kd.R_drewN | apply Kd.R_drew)); exact HO_3.out)); (case aS => exact (below_size (by repeat (first | (with_reducible first | exact HB.out | apply below_alloc | apply pw_below_drewN | apply below_drew1) | exact HB.out)))); (case aL => have := LMc13.out; omega); intro v108 w14 ho hb hg hat; rw [← Ny107.out] at ho; have n0_ := Aside0.mk (hb); have n1_ := Aside0.mk (ho); clear HB; clear HO_3; have HB := n0_; have HO109 := n1_; clear n0_ n1_; clear ho hb hg hat))
                      go_roundg k2
                      case measure => have := HK1.out; have := HK2.out; omega
                      case rel => exact ⟨(y107), (wrap64 (x11_1 + 1)), (by first | rfl | (simp; done) | (simp [*]; done)), H', ⟨by have := HK1.out; have := HK2.out; omega⟩, ⟨by (with_reducible repeat (first | apply Kd.R_alloc | apply Kd.R_drewN | apply Kd.R_drew)); first | exact HO109.out | exact Kd.R_mono HO109.out (fun k_ h_ => ne_own_len h_)⟩, ⟨by repeat (first | (with_reducible first | exact HB.out | apply below_alloc | apply pw_below_drewN | apply below_drew1) | exact HB.out)⟩⟩
                    · rw [if_neg c13] at H
                      exact absurd H (by simp)
          · rw [if_neg c4] at H
            exact absurd H (by simp)
        · rw [if_neg c3] at H
          exact absurd H (by simp)
      · rw [if_neg c2] at H
        have c2b0 : decide (x11_1 < (l0.length : Int)) = false := decide_eq_false c2
        clear c2
        obtain rfl := Option.some.inj H
        go_wp2
        go_ret
        exact ⟨_, by first | rfl | (simp [errW_none, errW_some] <;> rfl) | (simp [*, errW_none, errW_some] <;> rfl), by (with_reducible repeat (first | apply Kd.R_alloc | apply Kd.R_drewN | apply Kd.R_drew)); exact HO_3.out, by repeat (first | (with_reducible first | exact HB.out | apply below_alloc | apply pw_below_drewN | apply below_drew1) | exact HB.out)⟩
end Go.Proofs.Ytelfalicickelaa.P
