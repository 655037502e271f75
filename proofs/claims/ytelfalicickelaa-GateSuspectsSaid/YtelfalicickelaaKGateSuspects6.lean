/- Texts of this claim, merged by a program (shake.py): what the last theorems reach of QSus. -/
import Derived.Test.YtelfalicickelaaKB7
import Derived.Test.YtelfalicickelaaKB8
set_option linter.unusedSimpArgs false
set_option linter.unusedVariables false
namespace Go.Proofs.Ytelfalicickelaa.P
open Go.Lib Go.RowKit Go.Proofs.YtelfalicickelaaW.PrintWords Go.Proofs.YtelfalicickelaaW.PrintLast Go.Proofs.YtelfalicickelaaW.PrintMore Go.Proofs.Ytelfalicickelaa.Kit
def susAt (N m : Nat) (vs rs : List Int) (i : Nat) : Bool := decide (0 ≤ rd vs (i : Int) ∧ rd vs (i : Int) < ((2 ^ N : Nat) : Int)) && decide (0 ≤ rd rs (i : Int) ∧ rd rs (i : Int) < ((2 ^ m : Nat) : Int))
def susOk (N m : Nat) (vs rs : List Int) : Bool := (List.range vs.length).all (susAt N m vs rs)
def fitAt (c : GT.C) (vs rs : List Int) (f i : Nat) : Bool := decide (((GT.reply c (some f) (rd vs (i : Int)).toNat : Nat) : Int) = rd rs (i : Int))
def fitsTo (c : GT.C) (vs rs : List Int) (f i : Nat) : Bool := (List.range i).all (fitAt c vs rs f)
def susTo (c : GT.C) (vs rs : List Int) (i : Nat) : List Nat := (List.range i).filter fun f => fitsTo c vs rs f vs.length
def gate_Suspects.f (a0 : Int) (l1 : List S40) (l2 : List Int) (vs rs : List Int) : Option (List Int × Int) :=
  some (if okC a0 l1 l2 = true ∧ vs.length = rs.length ∧ vs.length ≤ 64 ∧ susOk a0.toNat l2.length vs rs = true then (nI (susTo (toC a0.toNat l1 l2) vs rs (2 * (a0.toNat + l1.length))), 0) else ([], 2))
def gate_Suspects.fl (n k : Nat) : Array Bool := (List.replicate k true ++ List.replicate (n - k) false).toArray
def gate_Suspects.T7 : Bool × List (List Nat × List Nat) := (true, [([], []), ([0], [0]), ([1], [1]), ([2], [2]), ([2], [2]), ([4, 2, 2], [2, 4]), ([3, 5, 2], [2, 3, 5]), ([2, 6], [2, 6]), ([7, 5], [7]), ([8], [8]), ([8], [8]), ([9, 10, 8], [8, 9, 10]), ([11, 8], [8, 11]), ([12, 8], [8, 12]), ([8, 13], [8, 13]), ([14, 8], [14]), ([15], [15]), ([15], [15]), ([16, 17, 15], [15, 16, 17]), ([18, 15], [15, 18]), ([15], [15]), ([20, 15], [15, 20]), ([21, 15], [15, 21]), ([22, 15], [15, 22]), ([23, 15], [15, 23]), ([24, 15], [15, 24]), ([25, 15], [15, 25]), ([19, 26, 15], [15, 19, 26]), ([15, 27], [15, 27])])
def gate_Suspects.B7 : List Nat := [0, 1, 3, 7, 7, 23, 63, 127, 255, 511, 511, 2047, 4095, 8191, 16383, 32767, 65535, 65535, 262143, 524287, 65535, 1114111, 3211263, 7405567, 15794175, 32571391, 66125823, 134217727, 268435455]
theorem gate_Suspects.tab7 : rtab .any (opsOf Try.f45 7) = gate_Suspects.T7 := by kernel_rfl
theorem gate_Suspects.bits7 : waitsOk gate_Suspects.T7.2 gate_Suspects.B7 = true := by kernel_rfl
def gate_Suspects.T19 : Bool × List (List Nat × List Nat) := (true, [([], []), ([0], [0]), ([1], [1]), ([1], [1]), ([2, 3, 1, 1], [1, 2, 3]), ([1], [1]), ([1], [1]), ([5, 6, 1], [1, 5, 6]), ([7, 1], [1, 7]), ([4, 8, 1], [1, 4, 8]), ([1, 9], [1, 9]), ([10, 4, 0, 1, 2, 3, 4, 5, 6, 7, 8, 9, 10], [0, 10])])
def gate_Suspects.B19 : List Nat := [0, 1, 3, 3, 15, 3, 3, 99, 227, 511, 1023, 2047]
theorem gate_Suspects.tab19 : rtab .any (opsOf Try.f45 19) = gate_Suspects.T19 := by kernel_rfl
theorem gate_Suspects.bits19 : waitsOk gate_Suspects.T19.2 gate_Suspects.B19 = true := by kernel_rfl
set_option maxHeartbeats 8000000
set_option maxRecDepth 100000
theorem sus_nil (a0 : Int) (A1 : Option Addr) (c1 : Nat) (l1 : List S40) (A2 : Option Addr) (c2 : Nat) (l2 : List Int) (A3 : Option Addr) (c3 : Nat) (vs : List Int) (A4 : Option Addr) (c4 : Nat) (rs : List Int) (w : World) (hr1 : Kd.C k40 w A1 l1.length l1) (hc1 : l1.length ≤ c1) (hr2 : Kd.C (Kd.int .i64) w A2 l2.length l2) (hc2 : l2.length ≤ c2) (hr3 : Kd.C (Kd.int .i64) w A3 vs.length vs) (hc3 : vs.length ≤ c3) (hr4 : Kd.C (Kd.int .i64) w A4 rs.length rs) (hc4 : rs.length ≤ c4) (hok : okC a0 l1 l2 = false) :
    Calls Try.prog 45 #[.agg #[.int .i64 a0, .slice A1 l1.length c1, .slice A2 l2.length c2], .slice A3 vs.length c3, .slice A4 rs.length c4] w fun e w' => ∃ v0_ : Value, e = .returned (.tuple #[v0_, .int .i64 2]) ∧ Kd.R (Kd.int .i64) 3 w' w.heap.size (fun _ => True) v0_ [] ∧ Below w.heap.size w w' := by
  have HB := Aside0.mk (Below.refl w.heap.size w)
  have HO := Aside0.mk (fun W (hb : Below w.heap.size w W) => of_no a0 l1 l2 A1 c1 A2 c2 W hok (Kd.C_below hr1 hb) hc1 (Kd.C_below hr2 hb) hc2)
  clear hr1 hc1 hr2 hc2 hr3 hc3 hr4 hc4 hok
  go_enter Try.func45, Try.ntmps45
  go_wp2_with (go_at_call 54; (with_reducible refine (HO.out _ (below_alloc HB.out _)).mono ?_); rintro e w1 ⟨rfl, hb⟩; have HB1 := Aside0.mk (below_step (below_alloc HB.out _) hb); clear hb)
  go_ret2
  exact ⟨_, rfl, Kd.R_nil _ _ _ _ _, HB1.out⟩
theorem sus_len (N : Nat) (A1 : Option Addr) (c1 : Nat) (l1 : List S40) (A2 : Option Addr) (c2 : Nat) (l2 : List Int) (A3 : Option Addr) (c3 : Nat) (vs : List Int) (A4 : Option Addr) (c4 : Nat) (rs : List Int) (w : World) (hr1 : Kd.C k40 w A1 l1.length l1) (hc1 : l1.length ≤ c1) (hr2 : Kd.C (Kd.int .i64) w A2 l2.length l2) (hc2 : l2.length ≤ c2) (hr3 : Kd.C (Kd.int .i64) w A3 vs.length vs) (hc3 : vs.length ≤ c3) (hr4 : Kd.C (Kd.int .i64) w A4 rs.length rs) (hc4 : rs.length ≤ c4) (hok : okC (N : Int) l1 l2 = true) (hl : vs.length ≠ rs.length) :
    Calls Try.prog 45 #[.agg #[.int .i64 (N : Int), .slice A1 l1.length c1, .slice A2 l2.length c2], .slice A3 vs.length c3, .slice A4 rs.length c4] w fun e w' => ∃ v0_ : Value, e = .returned (.tuple #[v0_, .int .i64 2]) ∧ Kd.R (Kd.int .i64) 3 w' w.heap.size (fun _ => True) v0_ [] ∧ Below w.heap.size w w' := by
  have HB := Aside0.mk (Below.refl w.heap.size w)
  have HO := Aside0.mk (fun W (hb : Below w.heap.size w W) => of_ok N l1 l2 A1 c1 A2 c2 W hok (Kd.C_below hr1 hb) hc1 (Kd.C_below hr2 hb) hc2)
  have e1 : ((vs.length : Int) != (rs.length : Int)) = true := bne_iff_ne.2 (by omega)
  have e2 : ((vs.length : Int) == (rs.length : Int)) = false := beq_eq_false_iff_ne.2 (by omega)
  have e3 : (vs.length == rs.length) = false := beq_eq_false_iff_ne.2 hl
  have e4 : decide ((vs.length : Int) = (rs.length : Int)) = false := decide_eq_false (by omega)
  have e5 : decide (vs.length = rs.length) = false := decide_eq_false hl
  clear hl
  clear hr1 hc1 hr2 hc2 hr3 hc3 hr4 hc4 hok
  go_enter Try.func45, Try.ntmps45
  go_wp2_with (go_at_call 54; (with_reducible refine (HO.out _ (below_alloc HB.out _)).mono ?_); rintro e w1 ⟨g, rfl, hC, hb⟩; have HC := Aside0.mk hC; have HB1 := Aside0.mk (below_step (below_alloc HB.out _) hb); clear hC hb)
  go_ret2
  exact ⟨_, rfl, Kd.R_nil _ _ _ _ _, HB1.out⟩
theorem sus_big (N : Nat) (A1 : Option Addr) (c1 : Nat) (l1 : List S40) (A2 : Option Addr) (c2 : Nat) (l2 : List Int) (A3 : Option Addr) (c3 : Nat) (vs : List Int) (A4 : Option Addr) (c4 : Nat) (rs : List Int) (w : World) (hr1 : Kd.C k40 w A1 l1.length l1) (hc1 : l1.length ≤ c1) (hr2 : Kd.C (Kd.int .i64) w A2 l2.length l2) (hc2 : l2.length ≤ c2) (hr3 : Kd.C (Kd.int .i64) w A3 vs.length vs) (hc3 : vs.length ≤ c3) (hr4 : Kd.C (Kd.int .i64) w A4 rs.length rs) (hc4 : rs.length ≤ c4) (hok : okC (N : Int) l1 l2 = true) (hl : vs.length = rs.length) (hb64 : 64 < vs.length) :
    Calls Try.prog 45 #[.agg #[.int .i64 (N : Int), .slice A1 l1.length c1, .slice A2 l2.length c2], .slice A3 vs.length c3, .slice A4 rs.length c4] w fun e w' => ∃ v0_ : Value, e = .returned (.tuple #[v0_, .int .i64 2]) ∧ Kd.R (Kd.int .i64) 3 w' w.heap.size (fun _ => True) v0_ [] ∧ Below w.heap.size w w' := by
  have HB := Aside0.mk (Below.refl w.heap.size w)
  have HO := Aside0.mk (fun W (hb : Below w.heap.size w W) => of_ok N l1 l2 A1 c1 A2 c2 W hok (Kd.C_below hr1 hb) hc1 (Kd.C_below hr2 hb) hc2)
  rw [← hl] at hr4 hc4 ⊢
  obtain ⟨n, hn⟩ : ∃ n, vs.length = n := ⟨_, rfl⟩
  rw [hn] at hr3 hc3 hr4 hc4 hb64 ⊢
  have e1 : decide ((64 : Int) < (n : Int)) = true := decide_eq_true (by omega)
  have e2 : decide (64 < n) = true := decide_eq_true hb64
  have e3 : decide ((n : Int) > 64) = true := decide_eq_true (by omega)
  clear hl hb64 hn
  clear hr1 hc1 hr2 hc2 hr3 hc3 hr4 hc4 hok
  go_enter Try.func45, Try.ntmps45
  go_wp2_with (go_at_call 54; (with_reducible refine (HO.out _ (below_alloc HB.out _)).mono ?_); rintro e w1 ⟨g, rfl, hC, hb⟩; have HC := Aside0.mk hC; have HB1 := Aside0.mk (below_step (below_alloc HB.out _) hb); clear hC hb)
  go_ret2
  exact ⟨_, rfl, Kd.R_nil _ _ _ _ _, HB1.out⟩
theorem CircAt.now2 {W : World} {g N : Nat} {ls : List S40} {os : List Int} (h : CircAt W g N ls os) : ∃ A c, W.cell? ⟨g, 0, none⟩ = some (.int .i64 (N : Int)) ∧ W.cell? ⟨g, 2, none⟩ = some (.slice A os.length c) := by
  obtain ⟨A1, c1, A2, c2, Au, cu, h1, _⟩ := h
  exact ⟨A2, c2, blkc h1 0 rfl, blkc h1 2 rfl⟩
theorem susTo_succ (c : GT.C) (vs rs : List Int) (i : Nat) : susTo c vs rs (i + 1) = if fitsTo c vs rs i vs.length = true then susTo c vs rs i ++ [i] else susTo c vs rs i := by
  unfold susTo
  rw [List.range_succ, List.filter_append]
  by_cases h : fitsTo c vs rs i vs.length = true
  · rw [if_pos h]; simp [h]
  · rw [if_neg h]; simp [h]
theorem susTo_len (c : GT.C) (vs rs : List Int) (i : Nat) : (susTo c vs rs i).length ≤ i := by
  unfold susTo
  refine Nat.le_trans (List.length_filter_le _ _) ?_
  rw [List.length_range]
  exact Nat.le_refl _
theorem fitsTo_succ (c : GT.C) (vs rs : List Int) (f i : Nat) : fitsTo c vs rs f (i + 1) = (fitsTo c vs rs f i && fitAt c vs rs f i) := by
  unfold fitsTo
  rw [List.range_succ, List.all_append]
  simp
theorem sus_main (N : Nat) (A1 : Option Addr) (c1 : Nat) (l1 : List S40) (A2 : Option Addr) (c2 : Nat) (l2 : List Int) (A3 : Option Addr) (c3 : Nat) (vs : List Int) (A4 : Option Addr) (c4 : Nat) (rs : List Int) (w : World) (hr1 : Kd.C k40 w A1 l1.length l1) (hc1 : l1.length ≤ c1) (hr2 : Kd.C (Kd.int .i64) w A2 l2.length l2) (hc2 : l2.length ≤ c2) (hr3 : Kd.C (Kd.int .i64) w A3 vs.length vs) (hc3 : vs.length ≤ c3) (hr4 : Kd.C (Kd.int .i64) w A4 rs.length rs) (hc4 : rs.length ≤ c4) (hok : okC (N : Int) l1 l2 = true) (hl : vs.length = rs.length) (hb64 : vs.length ≤ 64) (r1 : List Int) (r2 : Int) (h : (if susOk N l2.length vs rs = true then (nI (susTo (toC N l1 l2) vs rs (2 * (N + l1.length))), (0 : Int)) else ([], 2)) = (r1, r2)) :
    Calls Try.prog 45 #[.agg #[.int .i64 (N : Int), .slice A1 l1.length c1, .slice A2 l2.length c2], .slice A3 vs.length c3, .slice A4 rs.length c4] w fun e w' => ∃ v0_ : Value, e = .returned (.tuple #[v0_, .int .i64 r2]) ∧ Kd.R (Kd.int .i64) 3 w' w.heap.size (fun _ => True) v0_ r1 ∧ Below w.heap.size w w' := by
  have hs := okC_small hok
  have hN6 : N ≤ 6 := by omega
  have hl16 : l1.length ≤ 16 := by omega
  have HNo := Aside0.mk (fun (i : Nat) (hi : i < vs.length) (hb : susAt N l2.length vs rs i = false) => show r1 = [] ∧ r2 = 2 from by
    have : susOk N l2.length vs rs = false := by
      cases e : susOk N l2.length vs rs with
      | false => rfl
      | true =>
        unfold susOk at e
        have := List.all_eq_true.1 e i (List.mem_range.2 hi)
        rw [hb] at this
        cases this
    rw [this, if_neg (by decide)] at h
    injection h with h1 h2
    exact ⟨h1.symm, h2.symm⟩)
  have HYes := Aside0.mk (fun (hall : ∀ j, j < vs.length → susAt N l2.length vs rs j = true) => show r1 = nI (susTo (toC N l1 l2) vs rs (2 * (N + l1.length))) ∧ r2 = 0 from by
    have : susOk N l2.length vs rs = true := by
      unfold susOk
      exact List.all_eq_true.2 fun j hj => hall j (List.mem_range.1 hj)
    rw [if_pos this] at h
    injection h with h1 h2
    exact ⟨h1.symm, h2.symm⟩)
  clear h
  have HB := Aside0.mk (Below.refl w.heap.size w)
  have HO := Aside0.mk (fun W (hb : Below w.heap.size w W) => of_ok N l1 l2 A1 c1 A2 c2 W hok (Kd.C_below hr1 hb) hc1 (Kd.C_below hr2 hb) hc2)
  have HVc := Aside0.mk (fun {W : World} {g : Nat} (hC : CircAt W g N l1 l2) => vectors_calls hC hN6)
  have HFl := Aside0.mk (fun {W : World} {g : Nat} (hC : CircAt W g N l1 l2) => failures_calls hC hN6 hl16)
  have HOu := Aside0.mk (fun {W : World} {g : Nat} (f : Nat) (hf : f ≤ 100) (hC : CircAt W g N l1 l2) => outs_calls (some f) (fun q hq => by cases hq; exact hf) hok hC)
  have HRp := Aside0.mk (fun (f V : Nat) (hV : V < 2 ^ N) => reply_at l1 l2 hN6 hs.2.2.2.2 (some f) V hV)
  have hm4 : l2.length ≤ 4 := hs.2.2.2.2
  have hM : 2 * (N + l1.length) ≤ 44 := by omega
  have HSA := Aside0.mk (fun (i : Nat) => show susAt N l2.length vs rs i = (decide (0 ≤ rd vs (i : Int) ∧ rd vs (i : Int) < ((2 ^ N : Nat) : Int)) && decide (0 ≤ rd rs (i : Int) ∧ rd rs (i : Int) < ((2 ^ l2.length : Nat) : Int))) from rfl)
  rw [← hl] at hr4 hc4 ⊢
  have hss := fun i => susTo_succ (toC N l1 l2) vs rs i
  obtain ⟨n, hn⟩ : ∃ n, vs.length = n := ⟨_, rfl⟩
  rw [hn] at hr3 hc3 hr4 hc4 hb64 HNo HYes hss ⊢
  have HSS := Aside0.mk hss
  obtain ⟨m, hm⟩ : ∃ m, l2.length = m := ⟨_, rfl⟩
  rw [hm] at hm4 HNo HYes HSA
  have HMm := Aside0.mk hm
  obtain ⟨M, hMM⟩ : ∃ M, 2 * (N + l1.length) = M := ⟨_, rfl⟩
  rw [hMM] at HYes HFl hM
  have hp2 : IntKind.i64.wrap ((2 : Int) ^ min m 64) = ((2 ^ m : Nat) : Int) := by
    have : m = 0 ∨ m = 1 ∨ m = 2 ∨ m = 3 ∨ m = 4 := by omega
    rcases this with rfl | rfl | rfl | rfl | rfl <;> decide +kernel
  have HPM := Aside0.mk hp2
  obtain ⟨pm, hpm⟩ : ∃ pm, 2 ^ m = pm := ⟨_, rfl⟩
  rw [hpm] at HSA hp2
  have HPZ := Aside0.mk (show (2 : Int) ^ m = (pm : Int) by rw [← hpm]; simp)
  obtain ⟨P, hP⟩ : ∃ P, 2 ^ N = P := ⟨_, rfl⟩
  rw [hP] at HSA HVc HRp
  have HPP := Aside0.mk hP
  obtain ⟨cc, hcc⟩ : ∃ cc, toC N l1 l2 = cc := ⟨_, rfl⟩
  rw [hcc] at HYes HOu HRp HSS
  have HK := Aside0.mk (show n ≤ 64 ∧ M ≤ 44 by omega)
  have e1 : decide ((64 : Int) < (n : Int)) = false := decide_eq_false (by omega)
  have e2 : decide (64 < n) = false := decide_eq_false (by omega)
  have e3 : decide ((n : Int) > 64) = false := decide_eq_false (by omega)
  have H3 := Aside0.mk (fun W (hb : Below w.heap.size w W) => Kd.C_below hr3 hb)
  have H4 := Aside0.mk (fun W (hb : Below w.heap.size w W) => Kd.C_below hr4 hb)
  clear hr1 hc1 hr2 hc2 hr3 hc3 hr4 hc4 hok hs hN6 hl16 hm4 hM hl hb64 hss hn hm hMM hpm hP hcc hp2
  go_enter Try.func45, Try.ntmps45
  go_wp2_with (go_at_call 54; (with_reducible refine (HO.out _ (below_alloc HB.out _)).mono ?_); rintro e w1 ⟨g, rfl, hC, hb⟩; have HC := Aside0.mk hC; have HB1 := Aside0.mk (below_step (below_alloc HB.out _) hb); clear hC hb)
  go_loopw [35] (fun v35 w' => ∃ (i : Nat) (wq : World), wq = w' ∧ v35 = .int .i64 (i : Int) ∧ Aside0 (i ≤ n) ∧ Aside0 (∀ j, j < i → susAt N m vs rs j = true) ∧ Aside0 (Below w1.heap.size w1 w')) (fun v _ => n - (intOf v).toNat)
  case atStart => exact ⟨0, _, rfl, rfl, ⟨Nat.zero_le _⟩, ⟨fun j hj => absurd hj (Nat.not_lt_zero _)⟩, ⟨Below.refl _ _⟩⟩
  case round =>
    obtain ⟨i, wq, rfl, rfl, Hi, HA, HBw⟩ := hrel
    have HBt := Aside0.mk (below_step HB1.out HBw.out)
    have HCw := Aside0.mk (HC.out.keep HBw.out)
    by_cases ct : (i : Int) < (n : Int)
    · have c1b : decide ((i : Int) < (n : Int)) = true := decide_eq_true ct
      have c1c : decide (i < n) = true := decide_eq_true (by omega)
      have hi : i < n := by omega
      have Hct := Aside0.mk hi
      have q1 := eq_true ct
      have q2 := eq_true hi
      have q3 := eq_true (show (0 : Int) ≤ i by omega)
      obtain ⟨ad3, x3, hx3⟩ := Kd.at_int (H3.out _ HBt.out) (i : Int) (by omega) ct
      obtain ⟨ad4, x4, hx4⟩ := Kd.at_int (H4.out _ HBt.out) (i : Int) (by omega) ct
      subst x3 x4
      rw [Int.toNat_natCast] at hx3 hx4
      have hsa := HSA.out i
      have hbad := HNo.out i hi
      obtain ⟨v, hv⟩ : ∃ v, rd vs (i : Int) = v := ⟨_, rfl⟩
      obtain ⟨r, hr⟩ : ∃ r, rd rs (i : Int) = r := ⟨_, rfl⟩
      rw [hv] at hx3 hsa
      rw [hr] at hx4 hsa
      obtain ⟨Ao, co, y0, y2⟩ := HCw.out.now2
      rw [HMm.out] at y2
      have HX4 := Aside0.mk hx4
      have HY2 := Aside0.mk y2
      clear ct hi hv hr hx4 y0 y2
      by_cases g1 : v < 0
      · have d1 : decide (v < 0) = true := decide_eq_true g1
        obtain ⟨rfl, rfl⟩ := hbad (by rw [hsa]; rw [decide_eq_false (by omega), Bool.false_and])
        clear hsa hbad
        go_wp2
        have HCb := Aside0.mk (HCw.out.keep (below_drew1 (Below.refl _ _)))
        have HBb := Aside0.mk (below_drew1 HBw.out)
        refine start_ (n := 29) (S := fun w' => w'.cell? (ad4.add i) = some (.int .i64 r) ∧ w'.cell? ⟨g, 2, none⟩ = some (.slice Ao m co)) (ds := []) (gate_Suspects.fl 29 0) (by kernel_rfl) rfl rfl ⟨show wq.drew.cell? _ = _ from HX4.out, show wq.drew.cell? _ = _ from HY2.out⟩ (fun hHeld => ?_)
        refine with_tabW gate_Suspects.tab7 gate_Suspects.bits7 (fun HT_ HW_ => ?_)
        generalize wq.drew = wb at HCb HBb hHeld ⊢
        refine pure_ (i := 0) (N := (some 40)) (v := ?_) (a' := ?_) (gate_Suspects.fl 29 1) rfl rfl (any_of HT_.out (by kernel_rfl)) (fun _ _ _ h => h) (Or.inl ⟨by rfl, ?_⟩) ?_ ?_
        rotate_left
        · intro w'
          go_simp
          with_reducible rfl
        rotate_left
        · simp only [Act.put, List.setIfInBounds_toArray, List.set_cons_zero, List.set_cons_succ, i64_w, i32_w]
          rfl
        refine pure_ (i := 1) (N := (some 41)) (v := ?_) (a' := ?_) (gate_Suspects.fl 29 2) rfl rfl (any_of HT_.out (by kernel_rfl)) (fun _ _ _ h => h) (Or.inl ⟨by rfl, ?_⟩) ?_ ?_
        rotate_left
        · intro w'
          go_simp
          with_reducible rfl
        rotate_left
        · simp only [Act.put, List.setIfInBounds_toArray, List.set_cons_zero, List.set_cons_succ, i64_w, i32_w]
          rfl
        refine pure_ (i := 2) (N := (some 42)) (v := ?_) (a' := ?_) (gate_Suspects.fl 29 3) rfl rfl (any_of HT_.out (by kernel_rfl)) (fun _ _ _ h => h) (Or.inl ⟨by rfl, ?_⟩) ?_ ?_
        rotate_left
        · intro w'
          go_simp
          with_reducible rfl
        rotate_left
        · simp only [Act.put, List.setIfInBounds_toArray, List.set_cons_zero, List.set_cons_succ, i64_w, i32_w]
          rfl
        refine pure_ (i := 3) (N := (some 43)) (v := undef) (a' := ?_) (gate_Suspects.fl 29 4) rfl rfl (any_of HT_.out (by kernel_rfl)) (fun _ _ _ h => h) (Or.inr ⟨by rfl, rfl⟩) ?_ ?_
        rotate_left
        · simp only [Act.put, List.setIfInBounds_toArray, List.set_cons_zero, List.set_cons_succ, i64_w, i32_w]
          rfl
        refine pure_ (i := 4) (N := (some 44)) (v := undef) (a' := ?_) (gate_Suspects.fl 29 5) rfl rfl (any_of HT_.out (by kernel_rfl)) (fun _ _ _ h => h) (Or.inr ⟨by rfl, rfl⟩) ?_ ?_
        rotate_left
        · simp only [Act.put, List.setIfInBounds_toArray, List.set_cons_zero, List.set_cons_succ, i64_w, i32_w]
          rfl
        refine pure_ (i := 5) (N := (some 45)) (v := undef) (a' := ?_) (gate_Suspects.fl 29 6) rfl rfl (any_of HT_.out (by kernel_rfl)) (fun _ _ _ h => h) (Or.inr ⟨by rfl, rfl⟩) ?_ ?_
        rotate_left
        · simp only [Act.put, List.setIfInBounds_toArray, List.set_cons_zero, List.set_cons_succ, i64_w, i32_w]
          rfl
        refine pure_ (i := 6) (N := (some 46)) (v := undef) (a' := ?_) (gate_Suspects.fl 29 7) rfl rfl (any_of HT_.out (by kernel_rfl)) (fun _ _ _ h => h) (Or.inr ⟨by rfl, rfl⟩) ?_ ?_
        rotate_left
        · simp only [Act.put, List.setIfInBounds_toArray, List.set_cons_zero, List.set_cons_succ, i64_w, i32_w]
          rfl
        refine pure_ (i := 7) (N := (some 47)) (v := ?_) (a' := ?_) (gate_Suspects.fl 29 8) rfl rfl (any_of HT_.out (by kernel_rfl)) (fun _ _ _ h => h) (Or.inl ⟨by rfl, ?_⟩) ?_ ?_
        rotate_left
        · intro w'
          go_simp
          with_reducible rfl
        rotate_left
        · simp only [Act.put, List.setIfInBounds_toArray, List.set_cons_zero, List.set_cons_succ, i64_w, i32_w]
          rfl
        refine pure_ (i := 8) (N := (some 48)) (v := ?_) (a' := ?_) (gate_Suspects.fl 29 9) rfl rfl (any_of HT_.out (by kernel_rfl)) (fun _ _ _ h => h) (Or.inl ⟨by rfl, ?_⟩) ?_ ?_
        rotate_left
        · intro w'
          go_simp
          with_reducible rfl
        rotate_left
        · simp only [Act.put, List.setIfInBounds_toArray, List.set_cons_zero, List.set_cons_succ, i64_w, i32_w]
          rfl
        refine pure_ (i := 9) (N := (some 49)) (v := undef) (a' := ?_) (gate_Suspects.fl 29 10) rfl rfl (any_of HT_.out (by kernel_rfl)) (fun _ _ _ h => h) (Or.inr ⟨by rfl, rfl⟩) ?_ ?_
        rotate_left
        · simp only [Act.put, List.setIfInBounds_toArray, List.set_cons_zero, List.set_cons_succ, i64_w, i32_w]
          rfl
        refine pure_ (i := 10) (N := (some 50)) (v := undef) (a' := ?_) (gate_Suspects.fl 29 11) rfl rfl (any_of HT_.out (by kernel_rfl)) (fun _ _ _ h => h) (Or.inr ⟨by rfl, rfl⟩) ?_ ?_
        rotate_left
        · simp only [Act.put, List.setIfInBounds_toArray, List.set_cons_zero, List.set_cons_succ, i64_w, i32_w]
          rfl
        refine pure_ (i := 11) (N := (some 51)) (v := undef) (a' := ?_) (gate_Suspects.fl 29 12) rfl rfl (any_of HT_.out (by kernel_rfl)) (fun _ _ _ h => h) (Or.inr ⟨by rfl, rfl⟩) ?_ ?_
        rotate_left
        · simp only [Act.put, List.setIfInBounds_toArray, List.set_cons_zero, List.set_cons_succ, i64_w, i32_w]
          rfl
        refine pure_ (i := 12) (N := (some 52)) (v := undef) (a' := ?_) (gate_Suspects.fl 29 13) rfl rfl (any_of HT_.out (by kernel_rfl)) (fun _ _ _ h => h) (Or.inr ⟨by rfl, rfl⟩) ?_ ?_
        rotate_left
        · simp only [Act.put, List.setIfInBounds_toArray, List.set_cons_zero, List.set_cons_succ, i64_w, i32_w]
          rfl
        refine pure_ (i := 13) (N := (some 53)) (v := undef) (a' := ?_) (gate_Suspects.fl 29 14) rfl rfl (any_of HT_.out (by kernel_rfl)) (fun _ _ _ h => h) (Or.inr ⟨by rfl, rfl⟩) ?_ ?_
        rotate_left
        · simp only [Act.put, List.setIfInBounds_toArray, List.set_cons_zero, List.set_cons_succ, i64_w, i32_w]
          rfl
        refine pure_ (i := 14) (N := (some 54)) (v := ?_) (a' := ?_) (gate_Suspects.fl 29 15) rfl rfl (any_of HT_.out (by kernel_rfl)) (fun _ _ _ h => h) (Or.inl ⟨by rfl, ?_⟩) ?_ ?_
        rotate_left
        · intro w'
          go_simp
          with_reducible rfl
        rotate_left
        · simp only [Act.put, List.setIfInBounds_toArray, List.set_cons_zero, List.set_cons_succ, i64_w, i32_w]
          rfl
        refine pure_ (i := 15) (N := (some 55)) (v := ?_) (a' := ?_) (gate_Suspects.fl 29 16) rfl rfl (any_of HT_.out (by kernel_rfl)) (fun _ _ _ h => h) (Or.inl ⟨by rfl, ?_⟩) ?_ ?_
        rotate_left
        · intro w'
          go_simp
          with_reducible rfl
        rotate_left
        · simp only [Act.put, List.setIfInBounds_toArray, List.set_cons_zero, List.set_cons_succ, i64_w, i32_w]
          rfl
        refine pure_ (i := 16) (N := (some 56)) (v := undef) (a' := ?_) (gate_Suspects.fl 29 17) rfl rfl (any_of HT_.out (by kernel_rfl)) (fun _ _ _ h => h) (Or.inr ⟨by rfl, rfl⟩) ?_ ?_
        rotate_left
        · simp only [Act.put, List.setIfInBounds_toArray, List.set_cons_zero, List.set_cons_succ, i64_w, i32_w]
          rfl
        refine pure_ (i := 17) (N := (some 57)) (v := undef) (a' := ?_) (gate_Suspects.fl 29 18) rfl rfl (any_of HT_.out (by kernel_rfl)) (fun _ _ _ h => h) (Or.inr ⟨by rfl, rfl⟩) ?_ ?_
        rotate_left
        · simp only [Act.put, List.setIfInBounds_toArray, List.set_cons_zero, List.set_cons_succ, i64_w, i32_w]
          rfl
        refine pure_ (i := 18) (N := (some 58)) (v := undef) (a' := ?_) (gate_Suspects.fl 29 19) rfl rfl (any_of HT_.out (by kernel_rfl)) (fun _ _ _ h => h) (Or.inr ⟨by rfl, rfl⟩) ?_ ?_
        rotate_left
        · simp only [Act.put, List.setIfInBounds_toArray, List.set_cons_zero, List.set_cons_succ, i64_w, i32_w]
          rfl
        refine pure_ (i := 19) (N := (some 59)) (v := undef) (a' := ?_) (gate_Suspects.fl 29 20) rfl rfl (any_of HT_.out (by kernel_rfl)) (fun _ _ _ h => h) (Or.inr ⟨by rfl, rfl⟩) ?_ ?_
        rotate_left
        · simp only [Act.put, List.setIfInBounds_toArray, List.set_cons_zero, List.set_cons_succ, i64_w, i32_w]
          rfl
        refine pure_ (i := 20) (N := (some 60)) (v := undef) (a' := ?_) (gate_Suspects.fl 29 21) rfl rfl (any_of HT_.out (by kernel_rfl)) (fun _ _ _ h => h) (Or.inr ⟨by rfl, rfl⟩) ?_ ?_
        rotate_left
        · simp only [Act.put, List.setIfInBounds_toArray, List.set_cons_zero, List.set_cons_succ, i64_w, i32_w]
          rfl
        refine pure_ (i := 21) (N := (some 61)) (v := undef) (a' := ?_) (gate_Suspects.fl 29 22) rfl rfl (any_of HT_.out (by kernel_rfl)) (fun _ _ _ h => h) (Or.inr ⟨by rfl, rfl⟩) ?_ ?_
        rotate_left
        · simp only [Act.put, List.setIfInBounds_toArray, List.set_cons_zero, List.set_cons_succ, i64_w, i32_w]
          rfl
        refine pure_ (i := 22) (N := (some 62)) (v := undef) (a' := ?_) (gate_Suspects.fl 29 23) rfl rfl (any_of HT_.out (by kernel_rfl)) (fun _ _ _ h => h) (Or.inr ⟨by rfl, rfl⟩) ?_ ?_
        rotate_left
        · simp only [Act.put, List.setIfInBounds_toArray, List.set_cons_zero, List.set_cons_succ, i64_w, i32_w]
          rfl
        refine pure_ (i := 23) (N := (some 63)) (v := undef) (a' := ?_) (gate_Suspects.fl 29 24) rfl rfl (any_of HT_.out (by kernel_rfl)) (fun _ _ _ h => h) (Or.inr ⟨by rfl, rfl⟩) ?_ ?_
        rotate_left
        · simp only [Act.put, List.setIfInBounds_toArray, List.set_cons_zero, List.set_cons_succ, i64_w, i32_w]
          rfl
        refine pure_ (i := 24) (N := (some 64)) (v := undef) (a' := ?_) (gate_Suspects.fl 29 25) rfl rfl (any_of HT_.out (by kernel_rfl)) (fun _ _ _ h => h) (Or.inr ⟨by rfl, rfl⟩) ?_ ?_
        rotate_left
        · simp only [Act.put, List.setIfInBounds_toArray, List.set_cons_zero, List.set_cons_succ, i64_w, i32_w]
          rfl
        refine pure_ (i := 25) (N := (some 65)) (v := undef) (a' := ?_) (gate_Suspects.fl 29 26) rfl rfl (any_of HT_.out (by kernel_rfl)) (fun _ _ _ h => h) (Or.inr ⟨by rfl, rfl⟩) ?_ ?_
        rotate_left
        · simp only [Act.put, List.setIfInBounds_toArray, List.set_cons_zero, List.set_cons_succ, i64_w, i32_w]
          rfl
        refine pure_ (i := 26) (N := (some 66)) (v := undef) (a' := ?_) (gate_Suspects.fl 29 27) rfl rfl (any_of HT_.out (by kernel_rfl)) (fun _ _ _ h => h) (Or.inr ⟨by rfl, rfl⟩) ?_ ?_
        rotate_left
        · simp only [Act.put, List.setIfInBounds_toArray, List.set_cons_zero, List.set_cons_succ, i64_w, i32_w]
          rfl
        refine pure_ (i := 27) (N := (some 67)) (v := undef) (a' := ?_) (gate_Suspects.fl 29 28) rfl rfl (any_of HT_.out (by kernel_rfl)) (fun _ _ _ h => h) (Or.inr ⟨by rfl, rfl⟩) ?_ ?_
        rotate_left
        · simp only [Act.put, List.setIfInBounds_toArray, List.set_cons_zero, List.set_cons_succ, i64_w, i32_w]
          rfl
        refine pure_ (i := 28) (N := (some 68)) (v := ?_) (a' := ?_) (gate_Suspects.fl 29 29) rfl rfl (any_of HT_.out (by kernel_rfl)) (fun _ _ _ h => h) (Or.inl ⟨by rfl, ?_⟩) ?_ ?_
        rotate_left
        · intro w'
          go_simp
          with_reducible rfl
        rotate_left
        · simp only [Act.put, List.setIfInBounds_toArray, List.set_cons_zero, List.set_cons_succ, i64_w, i32_w]
          rfl
        refine done_ (done_of HT_.out (by kernel_rfl)) ?_
        go_wp2
        go_ret2
        exact ⟨_, rfl, Kd.R_nil _ _ _ _ _, below_step HB1.out HBb.out⟩
      · have d1 : decide (v < 0) = false := decide_eq_false g1
        by_cases g2 : (P : Int) ≤ v
        · have d2 : decide ((P : Int) ≤ v) = true := decide_eq_true g2
          obtain ⟨rfl, rfl⟩ := hbad (by rw [hsa]; rw [decide_eq_false (by omega), Bool.false_and])
          clear hsa hbad
          go_wp2
          have HCb := Aside0.mk (HCw.out.keep (below_drew1 (Below.refl _ _)))
          have HBb := Aside0.mk (below_drew1 HBw.out)
          refine start_ (n := 29) (S := fun w' => w'.cell? (ad4.add i) = some (.int .i64 r) ∧ w'.cell? ⟨g, 2, none⟩ = some (.slice Ao m co)) (ds := []) (gate_Suspects.fl 29 0) (by kernel_rfl) rfl rfl ⟨show wq.drew.cell? _ = _ from HX4.out, show wq.drew.cell? _ = _ from HY2.out⟩ (fun hHeld => ?_)
          refine with_tabW gate_Suspects.tab7 gate_Suspects.bits7 (fun HT_ HW_ => ?_)
          generalize wq.drew = wb at HCb HBb hHeld ⊢
          refine pure_ (i := 0) (N := (some 40)) (v := ?_) (a' := ?_) (gate_Suspects.fl 29 1) rfl rfl (any_of HT_.out (by kernel_rfl)) (fun _ _ _ h => h) (Or.inl ⟨by rfl, ?_⟩) ?_ ?_
          rotate_left
          · intro w'
            go_simp
            with_reducible rfl
          rotate_left
          · simp only [Act.put, List.setIfInBounds_toArray, List.set_cons_zero, List.set_cons_succ, i64_w, i32_w]
            rfl
          refine pure_ (i := 1) (N := (some 41)) (v := ?_) (a' := ?_) (gate_Suspects.fl 29 2) rfl rfl (any_of HT_.out (by kernel_rfl)) (fun _ _ _ h => h) (Or.inl ⟨by rfl, ?_⟩) ?_ ?_
          rotate_left
          · intro w'
            go_simp
            with_reducible rfl
          rotate_left
          · simp only [Act.put, List.setIfInBounds_toArray, List.set_cons_zero, List.set_cons_succ, i64_w, i32_w]
            rfl
          refine pure_ (i := 2) (N := (some 42)) (v := ?_) (a' := ?_) (gate_Suspects.fl 29 3) rfl rfl (any_of HT_.out (by kernel_rfl)) (fun _ _ _ h => h) (Or.inl ⟨by rfl, ?_⟩) ?_ ?_
          rotate_left
          · intro w'
            go_simp
            with_reducible rfl
          rotate_left
          · simp only [Act.put, List.setIfInBounds_toArray, List.set_cons_zero, List.set_cons_succ, i64_w, i32_w]
            rfl
          refine pure_ (i := 3) (N := (some 43)) (v := ?_) (a' := ?_) (gate_Suspects.fl 29 4) rfl rfl (any_of HT_.out (by kernel_rfl)) (fun _ _ _ h => h) (Or.inl ⟨by rfl, ?_⟩) ?_ ?_
          rotate_left
          · intro w'
            go_simp
            with_reducible rfl
          rotate_left
          · simp only [Act.put, List.setIfInBounds_toArray, List.set_cons_zero, List.set_cons_succ, i64_w, i32_w]
            rfl
          refine pure_ (i := 4) (N := (some 44)) (v := ?_) (a' := ?_) (gate_Suspects.fl 29 5) rfl rfl (any_of HT_.out (by kernel_rfl)) (fun _ _ _ h => h) (Or.inl ⟨by rfl, ?_⟩) ?_ ?_
          rotate_left
          · intro w'
            go_simp
            with_reducible rfl
          rotate_left
          · simp only [Act.put, List.setIfInBounds_toArray, List.set_cons_zero, List.set_cons_succ, i64_w, i32_w]
            rfl
          refine one_ (i := 5) (N := (some 45)) (gate_Suspects.fl 29 6) rfl rfl (one_of HT_.out (by kernel_rfl)) (by decide) (fun K hK => ?_)
          refine goes_ Try.func70 (by kernel_rfl) rfl #[.pointer (some ⟨g, 0, none⟩)] (by rfl) rfl rfl (by (try simp only [List.map_toArray, List.map_cons, List.map_nil]); first | done | rfl | (simp only [List.length_drop, List.length_take]; rfl)) ?_
          refine (HVc.out HCb.out).mono ?_
          rintro e w6 ⟨rfl, ⟨nd, rfl⟩⟩
          refine ⟨_, rfl, ?_⟩
          refine hK.out _ _ ⟨show (wb.drewN nd).cell? _ = _ from hHeld.1, show (wb.drewN nd).cell? _ = _ from hHeld.2⟩ (fun hHeld => ?_)
          clear hK K
          refine norm_ (a' := ?_) ?_ ?_
          rotate_left
          · show Act.put _ (some 45) _ = _
            simp only [Act.put, List.setIfInBounds_toArray, List.set_cons_zero, List.set_cons_succ, i64_w, i32_w]
            rfl
          refine pure_ (i := 6) (N := (some 46)) (v := ?_) (a' := ?_) (gate_Suspects.fl 29 7) rfl rfl (any_of HT_.out (by kernel_rfl)) (fun _ _ _ h => h) (Or.inl ⟨by rfl, ?_⟩) ?_ ?_
          rotate_left
          · intro w'
            go_simp
            with_reducible rfl
          rotate_left
          · simp only [Act.put, List.setIfInBounds_toArray, List.set_cons_zero, List.set_cons_succ, i64_w, i32_w]
            rfl
          refine pure_ (i := 7) (N := (some 47)) (v := ?_) (a' := ?_) (gate_Suspects.fl 29 8) rfl rfl (any_of HT_.out (by kernel_rfl)) (fun _ _ _ h => h) (Or.inl ⟨by rfl, ?_⟩) ?_ ?_
          rotate_left
          · intro w'
            go_simp
            with_reducible rfl
          rotate_left
          · simp only [Act.put, List.setIfInBounds_toArray, List.set_cons_zero, List.set_cons_succ, i64_w, i32_w]
            rfl
          refine pure_ (i := 8) (N := (some 48)) (v := ?_) (a' := ?_) (gate_Suspects.fl 29 9) rfl rfl (any_of HT_.out (by kernel_rfl)) (fun _ _ _ h => h) (Or.inl ⟨by rfl, ?_⟩) ?_ ?_
          rotate_left
          · intro w'
            go_simp
            with_reducible rfl
          rotate_left
          · simp only [Act.put, List.setIfInBounds_toArray, List.set_cons_zero, List.set_cons_succ, i64_w, i32_w]
            rfl
          refine pure_ (i := 9) (N := (some 49)) (v := undef) (a' := ?_) (gate_Suspects.fl 29 10) rfl rfl (any_of HT_.out (by kernel_rfl)) (fun _ _ _ h => h) (Or.inr ⟨by rfl, rfl⟩) ?_ ?_
          rotate_left
          · simp only [Act.put, List.setIfInBounds_toArray, List.set_cons_zero, List.set_cons_succ, i64_w, i32_w]
            rfl
          refine pure_ (i := 10) (N := (some 50)) (v := undef) (a' := ?_) (gate_Suspects.fl 29 11) rfl rfl (any_of HT_.out (by kernel_rfl)) (fun _ _ _ h => h) (Or.inr ⟨by rfl, rfl⟩) ?_ ?_
          rotate_left
          · simp only [Act.put, List.setIfInBounds_toArray, List.set_cons_zero, List.set_cons_succ, i64_w, i32_w]
            rfl
          refine pure_ (i := 11) (N := (some 51)) (v := undef) (a' := ?_) (gate_Suspects.fl 29 12) rfl rfl (any_of HT_.out (by kernel_rfl)) (fun _ _ _ h => h) (Or.inr ⟨by rfl, rfl⟩) ?_ ?_
          rotate_left
          · simp only [Act.put, List.setIfInBounds_toArray, List.set_cons_zero, List.set_cons_succ, i64_w, i32_w]
            rfl
          refine pure_ (i := 12) (N := (some 52)) (v := undef) (a' := ?_) (gate_Suspects.fl 29 13) rfl rfl (any_of HT_.out (by kernel_rfl)) (fun _ _ _ h => h) (Or.inr ⟨by rfl, rfl⟩) ?_ ?_
          rotate_left
          · simp only [Act.put, List.setIfInBounds_toArray, List.set_cons_zero, List.set_cons_succ, i64_w, i32_w]
            rfl
          refine pure_ (i := 13) (N := (some 53)) (v := undef) (a' := ?_) (gate_Suspects.fl 29 14) rfl rfl (any_of HT_.out (by kernel_rfl)) (fun _ _ _ h => h) (Or.inr ⟨by rfl, rfl⟩) ?_ ?_
          rotate_left
          · simp only [Act.put, List.setIfInBounds_toArray, List.set_cons_zero, List.set_cons_succ, i64_w, i32_w]
            rfl
          refine pure_ (i := 14) (N := (some 54)) (v := ?_) (a' := ?_) (gate_Suspects.fl 29 15) rfl rfl (any_of HT_.out (by kernel_rfl)) (fun _ _ _ h => h) (Or.inl ⟨by rfl, ?_⟩) ?_ ?_
          rotate_left
          · intro w'
            go_simp
            with_reducible rfl
          rotate_left
          · simp only [Act.put, List.setIfInBounds_toArray, List.set_cons_zero, List.set_cons_succ, i64_w, i32_w]
            rfl
          refine pure_ (i := 15) (N := (some 55)) (v := ?_) (a' := ?_) (gate_Suspects.fl 29 16) rfl rfl (any_of HT_.out (by kernel_rfl)) (fun _ _ _ h => h) (Or.inl ⟨by rfl, ?_⟩) ?_ ?_
          rotate_left
          · intro w'
            go_simp
            with_reducible rfl
          rotate_left
          · simp only [Act.put, List.setIfInBounds_toArray, List.set_cons_zero, List.set_cons_succ, i64_w, i32_w]
            rfl
          refine pure_ (i := 16) (N := (some 56)) (v := undef) (a' := ?_) (gate_Suspects.fl 29 17) rfl rfl (any_of HT_.out (by kernel_rfl)) (fun _ _ _ h => h) (Or.inr ⟨by rfl, rfl⟩) ?_ ?_
          rotate_left
          · simp only [Act.put, List.setIfInBounds_toArray, List.set_cons_zero, List.set_cons_succ, i64_w, i32_w]
            rfl
          refine pure_ (i := 17) (N := (some 57)) (v := undef) (a' := ?_) (gate_Suspects.fl 29 18) rfl rfl (any_of HT_.out (by kernel_rfl)) (fun _ _ _ h => h) (Or.inr ⟨by rfl, rfl⟩) ?_ ?_
          rotate_left
          · simp only [Act.put, List.setIfInBounds_toArray, List.set_cons_zero, List.set_cons_succ, i64_w, i32_w]
            rfl
          refine pure_ (i := 18) (N := (some 58)) (v := undef) (a' := ?_) (gate_Suspects.fl 29 19) rfl rfl (any_of HT_.out (by kernel_rfl)) (fun _ _ _ h => h) (Or.inr ⟨by rfl, rfl⟩) ?_ ?_
          rotate_left
          · simp only [Act.put, List.setIfInBounds_toArray, List.set_cons_zero, List.set_cons_succ, i64_w, i32_w]
            rfl
          refine pure_ (i := 19) (N := (some 59)) (v := undef) (a' := ?_) (gate_Suspects.fl 29 20) rfl rfl (any_of HT_.out (by kernel_rfl)) (fun _ _ _ h => h) (Or.inr ⟨by rfl, rfl⟩) ?_ ?_
          rotate_left
          · simp only [Act.put, List.setIfInBounds_toArray, List.set_cons_zero, List.set_cons_succ, i64_w, i32_w]
            rfl
          refine pure_ (i := 20) (N := (some 60)) (v := undef) (a' := ?_) (gate_Suspects.fl 29 21) rfl rfl (any_of HT_.out (by kernel_rfl)) (fun _ _ _ h => h) (Or.inr ⟨by rfl, rfl⟩) ?_ ?_
          rotate_left
          · simp only [Act.put, List.setIfInBounds_toArray, List.set_cons_zero, List.set_cons_succ, i64_w, i32_w]
            rfl
          refine pure_ (i := 21) (N := (some 61)) (v := undef) (a' := ?_) (gate_Suspects.fl 29 22) rfl rfl (any_of HT_.out (by kernel_rfl)) (fun _ _ _ h => h) (Or.inr ⟨by rfl, rfl⟩) ?_ ?_
          rotate_left
          · simp only [Act.put, List.setIfInBounds_toArray, List.set_cons_zero, List.set_cons_succ, i64_w, i32_w]
            rfl
          refine pure_ (i := 22) (N := (some 62)) (v := undef) (a' := ?_) (gate_Suspects.fl 29 23) rfl rfl (any_of HT_.out (by kernel_rfl)) (fun _ _ _ h => h) (Or.inr ⟨by rfl, rfl⟩) ?_ ?_
          rotate_left
          · simp only [Act.put, List.setIfInBounds_toArray, List.set_cons_zero, List.set_cons_succ, i64_w, i32_w]
            rfl
          refine pure_ (i := 23) (N := (some 63)) (v := undef) (a' := ?_) (gate_Suspects.fl 29 24) rfl rfl (any_of HT_.out (by kernel_rfl)) (fun _ _ _ h => h) (Or.inr ⟨by rfl, rfl⟩) ?_ ?_
          rotate_left
          · simp only [Act.put, List.setIfInBounds_toArray, List.set_cons_zero, List.set_cons_succ, i64_w, i32_w]
            rfl
          refine pure_ (i := 24) (N := (some 64)) (v := undef) (a' := ?_) (gate_Suspects.fl 29 25) rfl rfl (any_of HT_.out (by kernel_rfl)) (fun _ _ _ h => h) (Or.inr ⟨by rfl, rfl⟩) ?_ ?_
          rotate_left
          · simp only [Act.put, List.setIfInBounds_toArray, List.set_cons_zero, List.set_cons_succ, i64_w, i32_w]
            rfl
          refine pure_ (i := 25) (N := (some 65)) (v := undef) (a' := ?_) (gate_Suspects.fl 29 26) rfl rfl (any_of HT_.out (by kernel_rfl)) (fun _ _ _ h => h) (Or.inr ⟨by rfl, rfl⟩) ?_ ?_
          rotate_left
          · simp only [Act.put, List.setIfInBounds_toArray, List.set_cons_zero, List.set_cons_succ, i64_w, i32_w]
            rfl
          refine pure_ (i := 26) (N := (some 66)) (v := undef) (a' := ?_) (gate_Suspects.fl 29 27) rfl rfl (any_of HT_.out (by kernel_rfl)) (fun _ _ _ h => h) (Or.inr ⟨by rfl, rfl⟩) ?_ ?_
          rotate_left
          · simp only [Act.put, List.setIfInBounds_toArray, List.set_cons_zero, List.set_cons_succ, i64_w, i32_w]
            rfl
          refine pure_ (i := 27) (N := (some 67)) (v := undef) (a' := ?_) (gate_Suspects.fl 29 28) rfl rfl (any_of HT_.out (by kernel_rfl)) (fun _ _ _ h => h) (Or.inr ⟨by rfl, rfl⟩) ?_ ?_
          rotate_left
          · simp only [Act.put, List.setIfInBounds_toArray, List.set_cons_zero, List.set_cons_succ, i64_w, i32_w]
            rfl
          refine pure_ (i := 28) (N := (some 68)) (v := ?_) (a' := ?_) (gate_Suspects.fl 29 29) rfl rfl (any_of HT_.out (by kernel_rfl)) (fun _ _ _ h => h) (Or.inl ⟨by rfl, ?_⟩) ?_ ?_
          rotate_left
          · intro w'
            go_simp
            with_reducible rfl
          rotate_left
          · simp only [Act.put, List.setIfInBounds_toArray, List.set_cons_zero, List.set_cons_succ, i64_w, i32_w]
            rfl
          refine done_ (done_of HT_.out (by kernel_rfl)) ?_
          go_wp2
          go_ret2
          exact ⟨_, rfl, Kd.R_nil _ _ _ _ _, below_step HB1.out (pw_below_drewN HBb.out _)⟩
        · have d2 : decide ((P : Int) ≤ v) = false := decide_eq_false g2
          by_cases g3 : r < 0
          · have d3 : decide (r < 0) = true := decide_eq_true g3
            obtain ⟨rfl, rfl⟩ := hbad (by rw [hsa]; rw [decide_eq_false (p := 0 ≤ r ∧ _) (by omega), Bool.and_false])
            clear hsa hbad
            go_wp2
            have HCb := Aside0.mk (HCw.out.keep (below_drew1 (Below.refl _ _)))
            have HBb := Aside0.mk (below_drew1 HBw.out)
            refine start_ (n := 29) (S := fun w' => w'.cell? (ad4.add i) = some (.int .i64 r) ∧ w'.cell? ⟨g, 2, none⟩ = some (.slice Ao m co)) (ds := []) (gate_Suspects.fl 29 0) (by kernel_rfl) rfl rfl ⟨show wq.drew.cell? _ = _ from HX4.out, show wq.drew.cell? _ = _ from HY2.out⟩ (fun hHeld => ?_)
            refine with_tabW gate_Suspects.tab7 gate_Suspects.bits7 (fun HT_ HW_ => ?_)
            generalize wq.drew = wb at HCb HBb hHeld ⊢
            refine pure_ (i := 0) (N := (some 40)) (v := ?_) (a' := ?_) (gate_Suspects.fl 29 1) rfl rfl (any_of HT_.out (by kernel_rfl)) (fun _ _ _ h => h) (Or.inl ⟨by rfl, ?_⟩) ?_ ?_
            rotate_left
            · intro w'
              go_simp
              with_reducible rfl
            rotate_left
            · simp only [Act.put, List.setIfInBounds_toArray, List.set_cons_zero, List.set_cons_succ, i64_w, i32_w]
              rfl
            refine pure_ (i := 1) (N := (some 41)) (v := ?_) (a' := ?_) (gate_Suspects.fl 29 2) rfl rfl (any_of HT_.out (by kernel_rfl)) (fun _ _ _ h => h) (Or.inl ⟨by rfl, ?_⟩) ?_ ?_
            rotate_left
            · intro w'
              go_simp
              with_reducible rfl
            rotate_left
            · simp only [Act.put, List.setIfInBounds_toArray, List.set_cons_zero, List.set_cons_succ, i64_w, i32_w]
              rfl
            refine pure_ (i := 2) (N := (some 42)) (v := ?_) (a' := ?_) (gate_Suspects.fl 29 3) rfl rfl (any_of HT_.out (by kernel_rfl)) (fun _ _ _ h => h) (Or.inl ⟨by rfl, ?_⟩) ?_ ?_
            rotate_left
            · intro w'
              go_simp
              with_reducible rfl
            rotate_left
            · simp only [Act.put, List.setIfInBounds_toArray, List.set_cons_zero, List.set_cons_succ, i64_w, i32_w]
              rfl
            refine pure_ (i := 3) (N := (some 43)) (v := ?_) (a' := ?_) (gate_Suspects.fl 29 4) rfl rfl (any_of HT_.out (by kernel_rfl)) (fun _ _ _ h => h) (Or.inl ⟨by rfl, ?_⟩) ?_ ?_
            rotate_left
            · intro w'
              go_simp
              with_reducible rfl
            rotate_left
            · simp only [Act.put, List.setIfInBounds_toArray, List.set_cons_zero, List.set_cons_succ, i64_w, i32_w]
              rfl
            refine pure_ (i := 4) (N := (some 44)) (v := ?_) (a' := ?_) (gate_Suspects.fl 29 5) rfl rfl (any_of HT_.out (by kernel_rfl)) (fun _ _ _ h => h) (Or.inl ⟨by rfl, ?_⟩) ?_ ?_
            rotate_left
            · intro w'
              go_simp
              with_reducible rfl
            rotate_left
            · simp only [Act.put, List.setIfInBounds_toArray, List.set_cons_zero, List.set_cons_succ, i64_w, i32_w]
              rfl
            refine one_ (i := 5) (N := (some 45)) (gate_Suspects.fl 29 6) rfl rfl (one_of HT_.out (by kernel_rfl)) (by decide) (fun K hK => ?_)
            refine goes_ Try.func70 (by kernel_rfl) rfl #[.pointer (some ⟨g, 0, none⟩)] (by rfl) rfl rfl (by (try simp only [List.map_toArray, List.map_cons, List.map_nil]); first | done | rfl | (simp only [List.length_drop, List.length_take]; rfl)) ?_
            refine (HVc.out HCb.out).mono ?_
            rintro e w6 ⟨rfl, ⟨nd, rfl⟩⟩
            refine ⟨_, rfl, ?_⟩
            refine hK.out _ _ ⟨show (wb.drewN nd).cell? _ = _ from hHeld.1, show (wb.drewN nd).cell? _ = _ from hHeld.2⟩ (fun hHeld => ?_)
            clear hK K
            refine norm_ (a' := ?_) ?_ ?_
            rotate_left
            · show Act.put _ (some 45) _ = _
              simp only [Act.put, List.setIfInBounds_toArray, List.set_cons_zero, List.set_cons_succ, i64_w, i32_w]
              rfl
            refine pure_ (i := 6) (N := (some 46)) (v := ?_) (a' := ?_) (gate_Suspects.fl 29 7) rfl rfl (any_of HT_.out (by kernel_rfl)) (fun _ _ _ h => h) (Or.inl ⟨by rfl, ?_⟩) ?_ ?_
            rotate_left
            · intro w'
              go_simp
              with_reducible rfl
            rotate_left
            · simp only [Act.put, List.setIfInBounds_toArray, List.set_cons_zero, List.set_cons_succ, i64_w, i32_w]
              rfl
            refine pure_ (i := 7) (N := (some 47)) (v := ?_) (a' := ?_) (gate_Suspects.fl 29 8) rfl rfl (any_of HT_.out (by kernel_rfl)) (fun _ _ _ h => h) (Or.inl ⟨by rfl, ?_⟩) ?_ ?_
            rotate_left
            · intro w'
              go_simp
              with_reducible rfl
            rotate_left
            · simp only [Act.put, List.setIfInBounds_toArray, List.set_cons_zero, List.set_cons_succ, i64_w, i32_w]
              rfl
            refine pure_ (i := 8) (N := (some 48)) (v := ?_) (a' := ?_) (gate_Suspects.fl 29 9) rfl rfl (any_of HT_.out (by kernel_rfl)) (fun _ _ _ h => h) (Or.inl ⟨by rfl, ?_⟩) ?_ ?_
            rotate_left
            · intro w'
              go_simp
              with_reducible rfl
            rotate_left
            · simp only [Act.put, List.setIfInBounds_toArray, List.set_cons_zero, List.set_cons_succ, i64_w, i32_w]
              rfl
            refine pure_ (i := 9) (N := (some 49)) (v := ?_) (a' := ?_) (gate_Suspects.fl 29 10) rfl rfl (any_of HT_.out (by kernel_rfl)) (fun _ _ _ h => h) (Or.inl ⟨by rfl, ?_⟩) ?_ ?_
            rotate_left
            · intro w'
              go_simp
              with_reducible rfl
            rotate_left
            · simp only [Act.put, List.setIfInBounds_toArray, List.set_cons_zero, List.set_cons_succ, i64_w, i32_w]
              rfl
            refine pure_ (i := 10) (N := (some 50)) (v := ?_) (a' := ?_) (gate_Suspects.fl 29 11) rfl rfl (any_of HT_.out (by kernel_rfl)) (fun _ _ _ h => h) (Or.inl ⟨by rfl, ?_⟩) ?_ ?_
            rotate_left
            · intro w'
              go_simp
              with_reducible rfl
            rotate_left
            · simp only [Act.put, List.setIfInBounds_toArray, List.set_cons_zero, List.set_cons_succ, i64_w, i32_w]
              rfl
            refine pure_ (i := 11) (N := (some 51)) (v := ?_) (a' := ?_) (gate_Suspects.fl 29 12) rfl rfl (any_of HT_.out (by kernel_rfl)) (fun _ _ _ h => h) (Or.inl ⟨by rfl, ?_⟩) ?_ ?_
            rotate_left
            · intro w'
              go_simp
              with_reducible rfl
            rotate_left
            · simp only [Act.put, List.setIfInBounds_toArray, List.set_cons_zero, List.set_cons_succ, i64_w, i32_w]
              rfl
            refine take_ (i := 12) (N := (some 52)) (v := ?_) (a' := ?_) (gate_Suspects.fl 29 13) rfl rfl (take_ofW HT_.out HW_.out (by kernel_rfl)) (fun _ _ _ h => h) (Or.inl ⟨by rfl, ?_⟩) hHeld ?_ ?_
            rotate_left
            · rintro w' ⟨s0, s1⟩
              go_simp
              with_reducible rfl
            rotate_left
            · simp only [Act.put, List.setIfInBounds_toArray, List.set_cons_zero, List.set_cons_succ, i64_w, i32_w]
              rfl
            refine pure_ (i := 13) (N := (some 53)) (v := ?_) (a' := ?_) (gate_Suspects.fl 29 14) rfl rfl (any_of HT_.out (by kernel_rfl)) (fun _ _ _ h => h) (Or.inl ⟨by rfl, ?_⟩) ?_ ?_
            rotate_left
            · intro w'
              go_simp
              with_reducible rfl
            rotate_left
            · simp only [Act.put, List.setIfInBounds_toArray, List.set_cons_zero, List.set_cons_succ, i64_w, i32_w]
              rfl
            refine pure_ (i := 14) (N := (some 54)) (v := ?_) (a' := ?_) (gate_Suspects.fl 29 15) rfl rfl (any_of HT_.out (by kernel_rfl)) (fun _ _ _ h => h) (Or.inl ⟨by rfl, ?_⟩) ?_ ?_
            rotate_left
            · intro w'
              go_simp
              with_reducible rfl
            rotate_left
            · simp only [Act.put, List.setIfInBounds_toArray, List.set_cons_zero, List.set_cons_succ, i64_w, i32_w]
              rfl
            refine pure_ (i := 15) (N := (some 55)) (v := ?_) (a' := ?_) (gate_Suspects.fl 29 16) rfl rfl (any_of HT_.out (by kernel_rfl)) (fun _ _ _ h => h) (Or.inl ⟨by rfl, ?_⟩) ?_ ?_
            rotate_left
            · intro w'
              go_simp
              with_reducible rfl
            rotate_left
            · simp only [Act.put, List.setIfInBounds_toArray, List.set_cons_zero, List.set_cons_succ, i64_w, i32_w]
              rfl
            refine pure_ (i := 16) (N := (some 56)) (v := undef) (a' := ?_) (gate_Suspects.fl 29 17) rfl rfl (any_of HT_.out (by kernel_rfl)) (fun _ _ _ h => h) (Or.inr ⟨by rfl, rfl⟩) ?_ ?_
            rotate_left
            · simp only [Act.put, List.setIfInBounds_toArray, List.set_cons_zero, List.set_cons_succ, i64_w, i32_w]
              rfl
            refine pure_ (i := 17) (N := (some 57)) (v := undef) (a' := ?_) (gate_Suspects.fl 29 18) rfl rfl (any_of HT_.out (by kernel_rfl)) (fun _ _ _ h => h) (Or.inr ⟨by rfl, rfl⟩) ?_ ?_
            rotate_left
            · simp only [Act.put, List.setIfInBounds_toArray, List.set_cons_zero, List.set_cons_succ, i64_w, i32_w]
              rfl
            refine pure_ (i := 18) (N := (some 58)) (v := undef) (a' := ?_) (gate_Suspects.fl 29 19) rfl rfl (any_of HT_.out (by kernel_rfl)) (fun _ _ _ h => h) (Or.inr ⟨by rfl, rfl⟩) ?_ ?_
            rotate_left
            · simp only [Act.put, List.setIfInBounds_toArray, List.set_cons_zero, List.set_cons_succ, i64_w, i32_w]
              rfl
            refine pure_ (i := 19) (N := (some 59)) (v := undef) (a' := ?_) (gate_Suspects.fl 29 20) rfl rfl (any_of HT_.out (by kernel_rfl)) (fun _ _ _ h => h) (Or.inr ⟨by rfl, rfl⟩) ?_ ?_
            rotate_left
            · simp only [Act.put, List.setIfInBounds_toArray, List.set_cons_zero, List.set_cons_succ, i64_w, i32_w]
              rfl
            refine pure_ (i := 20) (N := (some 60)) (v := undef) (a' := ?_) (gate_Suspects.fl 29 21) rfl rfl (any_of HT_.out (by kernel_rfl)) (fun _ _ _ h => h) (Or.inr ⟨by rfl, rfl⟩) ?_ ?_
            rotate_left
            · simp only [Act.put, List.setIfInBounds_toArray, List.set_cons_zero, List.set_cons_succ, i64_w, i32_w]
              rfl
            refine pure_ (i := 21) (N := (some 61)) (v := undef) (a' := ?_) (gate_Suspects.fl 29 22) rfl rfl (any_of HT_.out (by kernel_rfl)) (fun _ _ _ h => h) (Or.inr ⟨by rfl, rfl⟩) ?_ ?_
            rotate_left
            · simp only [Act.put, List.setIfInBounds_toArray, List.set_cons_zero, List.set_cons_succ, i64_w, i32_w]
              rfl
            refine pure_ (i := 22) (N := (some 62)) (v := undef) (a' := ?_) (gate_Suspects.fl 29 23) rfl rfl (any_of HT_.out (by kernel_rfl)) (fun _ _ _ h => h) (Or.inr ⟨by rfl, rfl⟩) ?_ ?_
            rotate_left
            · simp only [Act.put, List.setIfInBounds_toArray, List.set_cons_zero, List.set_cons_succ, i64_w, i32_w]
              rfl
            refine pure_ (i := 23) (N := (some 63)) (v := undef) (a' := ?_) (gate_Suspects.fl 29 24) rfl rfl (any_of HT_.out (by kernel_rfl)) (fun _ _ _ h => h) (Or.inr ⟨by rfl, rfl⟩) ?_ ?_
            rotate_left
            · simp only [Act.put, List.setIfInBounds_toArray, List.set_cons_zero, List.set_cons_succ, i64_w, i32_w]
              rfl
            refine pure_ (i := 24) (N := (some 64)) (v := undef) (a' := ?_) (gate_Suspects.fl 29 25) rfl rfl (any_of HT_.out (by kernel_rfl)) (fun _ _ _ h => h) (Or.inr ⟨by rfl, rfl⟩) ?_ ?_
            rotate_left
            · simp only [Act.put, List.setIfInBounds_toArray, List.set_cons_zero, List.set_cons_succ, i64_w, i32_w]
              rfl
            refine pure_ (i := 25) (N := (some 65)) (v := undef) (a' := ?_) (gate_Suspects.fl 29 26) rfl rfl (any_of HT_.out (by kernel_rfl)) (fun _ _ _ h => h) (Or.inr ⟨by rfl, rfl⟩) ?_ ?_
            rotate_left
            · simp only [Act.put, List.setIfInBounds_toArray, List.set_cons_zero, List.set_cons_succ, i64_w, i32_w]
              rfl
            refine pure_ (i := 26) (N := (some 66)) (v := undef) (a' := ?_) (gate_Suspects.fl 29 27) rfl rfl (any_of HT_.out (by kernel_rfl)) (fun _ _ _ h => h) (Or.inr ⟨by rfl, rfl⟩) ?_ ?_
            rotate_left
            · simp only [Act.put, List.setIfInBounds_toArray, List.set_cons_zero, List.set_cons_succ, i64_w, i32_w]
              rfl
            refine pure_ (i := 27) (N := (some 67)) (v := undef) (a' := ?_) (gate_Suspects.fl 29 28) rfl rfl (any_of HT_.out (by kernel_rfl)) (fun _ _ _ h => h) (Or.inr ⟨by rfl, rfl⟩) ?_ ?_
            rotate_left
            · simp only [Act.put, List.setIfInBounds_toArray, List.set_cons_zero, List.set_cons_succ, i64_w, i32_w]
              rfl
            refine pure_ (i := 28) (N := (some 68)) (v := ?_) (a' := ?_) (gate_Suspects.fl 29 29) rfl rfl (any_of HT_.out (by kernel_rfl)) (fun _ _ _ h => h) (Or.inl ⟨by rfl, ?_⟩) ?_ ?_
            rotate_left
            · intro w'
              go_simp
              with_reducible rfl
            rotate_left
            · simp only [Act.put, List.setIfInBounds_toArray, List.set_cons_zero, List.set_cons_succ, i64_w, i32_w]
              rfl
            refine done_ (done_of HT_.out (by kernel_rfl)) ?_
            go_wp2
            go_ret2
            exact ⟨_, rfl, Kd.R_nil _ _ _ _ _, below_step HB1.out (pw_below_drewN HBb.out _)⟩
          · have d3 : decide (r < 0) = false := decide_eq_false g3
            have hpm := HPM.out
            by_cases g4 : (2 : Int) ^ m ≤ r
            · have d4 : decide ((2 : Int) ^ m ≤ r) = true := decide_eq_true g4
              have g4b := g4
              rw [HPZ.out] at g4b
              clear g4
              obtain ⟨rfl, rfl⟩ := hbad (by rw [hsa]; rw [decide_eq_false (p := 0 ≤ r ∧ _) (by omega), Bool.and_false])
              clear hsa hbad
              go_wp2
              have HCb := Aside0.mk (HCw.out.keep (below_drew1 (Below.refl _ _)))
              have HBb := Aside0.mk (below_drew1 HBw.out)
              refine start_ (n := 29) (S := fun w' => w'.cell? (ad4.add i) = some (.int .i64 r) ∧ w'.cell? ⟨g, 2, none⟩ = some (.slice Ao m co)) (ds := []) (gate_Suspects.fl 29 0) (by kernel_rfl) rfl rfl ⟨show wq.drew.cell? _ = _ from HX4.out, show wq.drew.cell? _ = _ from HY2.out⟩ (fun hHeld => ?_)
              refine with_tabW gate_Suspects.tab7 gate_Suspects.bits7 (fun HT_ HW_ => ?_)
              generalize wq.drew = wb at HCb HBb hHeld ⊢
              refine pure_ (i := 0) (N := (some 40)) (v := ?_) (a' := ?_) (gate_Suspects.fl 29 1) rfl rfl (any_of HT_.out (by kernel_rfl)) (fun _ _ _ h => h) (Or.inl ⟨by rfl, ?_⟩) ?_ ?_
              rotate_left
              · intro w'
                go_simp
                with_reducible rfl
              rotate_left
              · simp only [Act.put, List.setIfInBounds_toArray, List.set_cons_zero, List.set_cons_succ, i64_w, i32_w]
                rfl
              refine pure_ (i := 1) (N := (some 41)) (v := ?_) (a' := ?_) (gate_Suspects.fl 29 2) rfl rfl (any_of HT_.out (by kernel_rfl)) (fun _ _ _ h => h) (Or.inl ⟨by rfl, ?_⟩) ?_ ?_
              rotate_left
              · intro w'
                go_simp
                with_reducible rfl
              rotate_left
              · simp only [Act.put, List.setIfInBounds_toArray, List.set_cons_zero, List.set_cons_succ, i64_w, i32_w]
                rfl
              refine pure_ (i := 2) (N := (some 42)) (v := ?_) (a' := ?_) (gate_Suspects.fl 29 3) rfl rfl (any_of HT_.out (by kernel_rfl)) (fun _ _ _ h => h) (Or.inl ⟨by rfl, ?_⟩) ?_ ?_
              rotate_left
              · intro w'
                go_simp
                with_reducible rfl
              rotate_left
              · simp only [Act.put, List.setIfInBounds_toArray, List.set_cons_zero, List.set_cons_succ, i64_w, i32_w]
                rfl
              refine pure_ (i := 3) (N := (some 43)) (v := ?_) (a' := ?_) (gate_Suspects.fl 29 4) rfl rfl (any_of HT_.out (by kernel_rfl)) (fun _ _ _ h => h) (Or.inl ⟨by rfl, ?_⟩) ?_ ?_
              rotate_left
              · intro w'
                go_simp
                with_reducible rfl
              rotate_left
              · simp only [Act.put, List.setIfInBounds_toArray, List.set_cons_zero, List.set_cons_succ, i64_w, i32_w]
                rfl
              refine pure_ (i := 4) (N := (some 44)) (v := ?_) (a' := ?_) (gate_Suspects.fl 29 5) rfl rfl (any_of HT_.out (by kernel_rfl)) (fun _ _ _ h => h) (Or.inl ⟨by rfl, ?_⟩) ?_ ?_
              rotate_left
              · intro w'
                go_simp
                with_reducible rfl
              rotate_left
              · simp only [Act.put, List.setIfInBounds_toArray, List.set_cons_zero, List.set_cons_succ, i64_w, i32_w]
                rfl
              refine one_ (i := 5) (N := (some 45)) (gate_Suspects.fl 29 6) rfl rfl (one_of HT_.out (by kernel_rfl)) (by decide) (fun K hK => ?_)
              refine goes_ Try.func70 (by kernel_rfl) rfl #[.pointer (some ⟨g, 0, none⟩)] (by rfl) rfl rfl (by (try simp only [List.map_toArray, List.map_cons, List.map_nil]); first | done | rfl | (simp only [List.length_drop, List.length_take]; rfl)) ?_
              refine (HVc.out HCb.out).mono ?_
              rintro e w6 ⟨rfl, ⟨nd, rfl⟩⟩
              refine ⟨_, rfl, ?_⟩
              refine hK.out _ _ ⟨show (wb.drewN nd).cell? _ = _ from hHeld.1, show (wb.drewN nd).cell? _ = _ from hHeld.2⟩ (fun hHeld => ?_)
              clear hK K
              refine norm_ (a' := ?_) ?_ ?_
              rotate_left
              · show Act.put _ (some 45) _ = _
                simp only [Act.put, List.setIfInBounds_toArray, List.set_cons_zero, List.set_cons_succ, i64_w, i32_w]
                rfl
              refine pure_ (i := 6) (N := (some 46)) (v := ?_) (a' := ?_) (gate_Suspects.fl 29 7) rfl rfl (any_of HT_.out (by kernel_rfl)) (fun _ _ _ h => h) (Or.inl ⟨by rfl, ?_⟩) ?_ ?_
              rotate_left
              · intro w'
                go_simp
                with_reducible rfl
              rotate_left
              · simp only [Act.put, List.setIfInBounds_toArray, List.set_cons_zero, List.set_cons_succ, i64_w, i32_w]
                rfl
              refine pure_ (i := 7) (N := (some 47)) (v := ?_) (a' := ?_) (gate_Suspects.fl 29 8) rfl rfl (any_of HT_.out (by kernel_rfl)) (fun _ _ _ h => h) (Or.inl ⟨by rfl, ?_⟩) ?_ ?_
              rotate_left
              · intro w'
                go_simp
                with_reducible rfl
              rotate_left
              · simp only [Act.put, List.setIfInBounds_toArray, List.set_cons_zero, List.set_cons_succ, i64_w, i32_w]
                rfl
              refine pure_ (i := 8) (N := (some 48)) (v := ?_) (a' := ?_) (gate_Suspects.fl 29 9) rfl rfl (any_of HT_.out (by kernel_rfl)) (fun _ _ _ h => h) (Or.inl ⟨by rfl, ?_⟩) ?_ ?_
              rotate_left
              · intro w'
                go_simp
                with_reducible rfl
              rotate_left
              · simp only [Act.put, List.setIfInBounds_toArray, List.set_cons_zero, List.set_cons_succ, i64_w, i32_w]
                rfl
              refine pure_ (i := 9) (N := (some 49)) (v := ?_) (a' := ?_) (gate_Suspects.fl 29 10) rfl rfl (any_of HT_.out (by kernel_rfl)) (fun _ _ _ h => h) (Or.inl ⟨by rfl, ?_⟩) ?_ ?_
              rotate_left
              · intro w'
                go_simp
                with_reducible rfl
              rotate_left
              · simp only [Act.put, List.setIfInBounds_toArray, List.set_cons_zero, List.set_cons_succ, i64_w, i32_w]
                rfl
              refine pure_ (i := 10) (N := (some 50)) (v := ?_) (a' := ?_) (gate_Suspects.fl 29 11) rfl rfl (any_of HT_.out (by kernel_rfl)) (fun _ _ _ h => h) (Or.inl ⟨by rfl, ?_⟩) ?_ ?_
              rotate_left
              · intro w'
                go_simp
                with_reducible rfl
              rotate_left
              · simp only [Act.put, List.setIfInBounds_toArray, List.set_cons_zero, List.set_cons_succ, i64_w, i32_w]
                rfl
              refine pure_ (i := 11) (N := (some 51)) (v := ?_) (a' := ?_) (gate_Suspects.fl 29 12) rfl rfl (any_of HT_.out (by kernel_rfl)) (fun _ _ _ h => h) (Or.inl ⟨by rfl, ?_⟩) ?_ ?_
              rotate_left
              · intro w'
                go_simp
                with_reducible rfl
              rotate_left
              · simp only [Act.put, List.setIfInBounds_toArray, List.set_cons_zero, List.set_cons_succ, i64_w, i32_w]
                rfl
              refine take_ (i := 12) (N := (some 52)) (v := ?_) (a' := ?_) (gate_Suspects.fl 29 13) rfl rfl (take_ofW HT_.out HW_.out (by kernel_rfl)) (fun _ _ _ h => h) (Or.inl ⟨by rfl, ?_⟩) hHeld ?_ ?_
              rotate_left
              · rintro w' ⟨s0, s1⟩
                go_simp
                with_reducible rfl
              rotate_left
              · simp only [Act.put, List.setIfInBounds_toArray, List.set_cons_zero, List.set_cons_succ, i64_w, i32_w]
                rfl
              refine pure_ (i := 13) (N := (some 53)) (v := ?_) (a' := ?_) (gate_Suspects.fl 29 14) rfl rfl (any_of HT_.out (by kernel_rfl)) (fun _ _ _ h => h) (Or.inl ⟨by rfl, ?_⟩) ?_ ?_
              rotate_left
              · intro w'
                go_simp
                with_reducible rfl
              rotate_left
              · simp only [Act.put, List.setIfInBounds_toArray, List.set_cons_zero, List.set_cons_succ, i64_w, i32_w]
                rfl
              refine pure_ (i := 14) (N := (some 54)) (v := ?_) (a' := ?_) (gate_Suspects.fl 29 15) rfl rfl (any_of HT_.out (by kernel_rfl)) (fun _ _ _ h => h) (Or.inl ⟨by rfl, ?_⟩) ?_ ?_
              rotate_left
              · intro w'
                go_simp
                with_reducible rfl
              rotate_left
              · simp only [Act.put, List.setIfInBounds_toArray, List.set_cons_zero, List.set_cons_succ, i64_w, i32_w]
                rfl
              refine pure_ (i := 15) (N := (some 55)) (v := ?_) (a' := ?_) (gate_Suspects.fl 29 16) rfl rfl (any_of HT_.out (by kernel_rfl)) (fun _ _ _ h => h) (Or.inl ⟨by rfl, ?_⟩) ?_ ?_
              rotate_left
              · intro w'
                go_simp
                with_reducible rfl
              rotate_left
              · simp only [Act.put, List.setIfInBounds_toArray, List.set_cons_zero, List.set_cons_succ, i64_w, i32_w]
                rfl
              refine pure_ (i := 16) (N := (some 56)) (v := ?_) (a' := ?_) (gate_Suspects.fl 29 17) rfl rfl (any_of HT_.out (by kernel_rfl)) (fun _ _ _ h => h) (Or.inl ⟨by rfl, ?_⟩) ?_ ?_
              rotate_left
              · intro w'
                go_simp
                with_reducible rfl
              rotate_left
              · simp only [Act.put, List.setIfInBounds_toArray, List.set_cons_zero, List.set_cons_succ, i64_w, i32_w]
                rfl
              refine pure_ (i := 17) (N := (some 57)) (v := ?_) (a' := ?_) (gate_Suspects.fl 29 18) rfl rfl (any_of HT_.out (by kernel_rfl)) (fun _ _ _ h => h) (Or.inl ⟨by rfl, ?_⟩) ?_ ?_
              rotate_left
              · intro w'
                go_simp
                with_reducible rfl
              rotate_left
              · simp only [Act.put, List.setIfInBounds_toArray, List.set_cons_zero, List.set_cons_succ, i64_w, i32_w]
                rfl
              refine pure_ (i := 18) (N := (some 58)) (v := ?_) (a' := ?_) (gate_Suspects.fl 29 19) rfl rfl (any_of HT_.out (by kernel_rfl)) (fun _ _ _ h => h) (Or.inl ⟨by rfl, ?_⟩) ?_ ?_
              rotate_left
              · intro w'
                go_simp
                with_reducible rfl
              rotate_left
              · simp only [Act.put, List.setIfInBounds_toArray, List.set_cons_zero, List.set_cons_succ, i64_w, i32_w]
                rfl
              refine take_ (i := 19) (N := (some 59)) (v := ?_) (a' := ?_) (gate_Suspects.fl 29 20) rfl rfl (take_ofW HT_.out HW_.out (by kernel_rfl)) (fun _ _ _ h => h) (Or.inl ⟨by rfl, ?_⟩) hHeld ?_ ?_
              rotate_left
              · rintro w' ⟨s0, s1⟩
                go_simp
                with_reducible rfl
              rotate_left
              · simp only [Act.put, List.setIfInBounds_toArray, List.set_cons_zero, List.set_cons_succ, i64_w, i32_w]
                rfl
              refine pure_ (i := 20) (N := (some 60)) (v := ?_) (a' := ?_) (gate_Suspects.fl 29 21) rfl rfl (any_of HT_.out (by kernel_rfl)) (fun _ _ _ h => h) (Or.inl ⟨by rfl, ?_⟩) ?_ ?_
              rotate_left
              · intro w'
                go_simp
                with_reducible rfl
              rotate_left
              · simp only [Act.put, List.setIfInBounds_toArray, List.set_cons_zero, List.set_cons_succ, i64_w, i32_w]
                rfl
              refine pure_ (i := 21) (N := (some 61)) (v := ?_) (a' := ?_) (gate_Suspects.fl 29 22) rfl rfl (any_of HT_.out (by kernel_rfl)) (fun _ _ _ h => h) (Or.inl ⟨by rfl, ?_⟩) ?_ ?_
              rotate_left
              · intro w'
                go_simp
                with_reducible rfl
              rotate_left
              · simp only [Act.put, List.setIfInBounds_toArray, List.set_cons_zero, List.set_cons_succ, i64_w, i32_w]
                rfl
              refine pure_ (i := 22) (N := (some 62)) (v := ?_) (a' := ?_) (gate_Suspects.fl 29 23) rfl rfl (any_of HT_.out (by kernel_rfl)) (fun _ _ _ h => h) (Or.inl ⟨by rfl, ?_⟩) ?_ ?_
              rotate_left
              · intro w'
                go_simp
                with_reducible rfl
              rotate_left
              · simp only [Act.put, List.setIfInBounds_toArray, List.set_cons_zero, List.set_cons_succ, i64_w, i32_w]
                rfl
              refine pure_ (i := 23) (N := (some 63)) (v := ?_) (a' := ?_) (gate_Suspects.fl 29 24) rfl rfl (any_of HT_.out (by kernel_rfl)) (fun _ _ _ h => h) (Or.inl ⟨by rfl, ?_⟩) ?_ ?_
              rotate_left
              · intro w'
                go_simp
                with_reducible rfl
              rotate_left
              · simp only [Act.put, List.setIfInBounds_toArray, List.set_cons_zero, List.set_cons_succ, i64_w, i32_w]
                rfl
              refine take_ (i := 24) (N := (some 64)) (v := ?_) (a' := ?_) (gate_Suspects.fl 29 25) rfl rfl (take_ofW HT_.out HW_.out (by kernel_rfl)) (fun _ _ _ h => h) (Or.inl ⟨by rfl, ?_⟩) hHeld ?_ ?_
              rotate_left
              · rintro w' ⟨s0, s1⟩
                go_simp
                with_reducible rfl
              rotate_left
              · simp only [Act.put, List.setIfInBounds_toArray, List.set_cons_zero, List.set_cons_succ, i64_w, i32_w]
                rfl
              refine pure_ (i := 25) (N := (some 65)) (v := ?_) (a' := ?_) (gate_Suspects.fl 29 26) rfl rfl (any_of HT_.out (by kernel_rfl)) (fun _ _ _ h => h) (Or.inl ⟨by rfl, ?_⟩) ?_ ?_
              rotate_left
              · intro w'
                go_simp
                with_reducible rfl
              rotate_left
              · simp only [Act.put, List.setIfInBounds_toArray, List.set_cons_zero, List.set_cons_succ, i64_w, i32_w]
                rfl
              refine pure_ (i := 26) (N := (some 66)) (v := ?_) (a' := ?_) (gate_Suspects.fl 29 27) rfl rfl (any_of HT_.out (by kernel_rfl)) (fun _ _ _ h => h) (Or.inl ⟨by rfl, ?_⟩) ?_ ?_
              rotate_left
              · intro w'
                go_simp
                with_reducible rfl
              rotate_left
              · simp only [Act.put, List.setIfInBounds_toArray, List.set_cons_zero, List.set_cons_succ, i64_w, i32_w]
                rfl
              refine pure_ (i := 27) (N := (some 67)) (v := ?_) (a' := ?_) (gate_Suspects.fl 29 28) rfl rfl (any_of HT_.out (by kernel_rfl)) (fun _ _ _ h => h) (Or.inl ⟨by rfl, ?_⟩) ?_ ?_
              rotate_left
              · intro w'
                go_simp
                with_reducible rfl
              rotate_left
              · simp only [Act.put, List.setIfInBounds_toArray, List.set_cons_zero, List.set_cons_succ, i64_w, i32_w]
                rfl
              refine pure_ (i := 28) (N := (some 68)) (v := ?_) (a' := ?_) (gate_Suspects.fl 29 29) rfl rfl (any_of HT_.out (by kernel_rfl)) (fun _ _ _ h => h) (Or.inl ⟨by rfl, ?_⟩) ?_ ?_
              rotate_left
              · intro w'
                go_simp
                with_reducible rfl
              rotate_left
              · simp only [Act.put, List.setIfInBounds_toArray, List.set_cons_zero, List.set_cons_succ, i64_w, i32_w]
                rfl
              refine done_ (done_of HT_.out (by kernel_rfl)) ?_
              go_wp2
              go_ret2
              exact ⟨_, rfl, Kd.R_nil _ _ _ _ _, below_step HB1.out (pw_below_drewN HBb.out _)⟩
            · have d4 : decide ((2 : Int) ^ m ≤ r) = false := decide_eq_false g4
              have g4b := g4
              rw [HPZ.out] at g4b
              clear g4
              have HOKi := Aside0.mk (show susAt N m vs rs i = true by rw [hsa]; rw [Bool.and_eq_true, decide_eq_true_iff, decide_eq_true_iff]; omega)
              clear hsa hbad
              go_wp2
              have HCb := Aside0.mk (HCw.out.keep (below_drew1 (Below.refl _ _)))
              have HBb := Aside0.mk (below_drew1 HBw.out)
              refine start_ (n := 29) (S := fun w' => w'.cell? (ad4.add i) = some (.int .i64 r) ∧ w'.cell? ⟨g, 2, none⟩ = some (.slice Ao m co)) (ds := []) (gate_Suspects.fl 29 0) (by kernel_rfl) rfl rfl ⟨show wq.drew.cell? _ = _ from HX4.out, show wq.drew.cell? _ = _ from HY2.out⟩ (fun hHeld => ?_)
              refine with_tabW gate_Suspects.tab7 gate_Suspects.bits7 (fun HT_ HW_ => ?_)
              generalize wq.drew = wb at HCb HBb hHeld ⊢
              refine pure_ (i := 0) (N := (some 40)) (v := ?_) (a' := ?_) (gate_Suspects.fl 29 1) rfl rfl (any_of HT_.out (by kernel_rfl)) (fun _ _ _ h => h) (Or.inl ⟨by rfl, ?_⟩) ?_ ?_
              rotate_left
              · intro w'
                go_simp
                with_reducible rfl
              rotate_left
              · simp only [Act.put, List.setIfInBounds_toArray, List.set_cons_zero, List.set_cons_succ, i64_w, i32_w]
                rfl
              refine pure_ (i := 1) (N := (some 41)) (v := ?_) (a' := ?_) (gate_Suspects.fl 29 2) rfl rfl (any_of HT_.out (by kernel_rfl)) (fun _ _ _ h => h) (Or.inl ⟨by rfl, ?_⟩) ?_ ?_
              rotate_left
              · intro w'
                go_simp
                with_reducible rfl
              rotate_left
              · simp only [Act.put, List.setIfInBounds_toArray, List.set_cons_zero, List.set_cons_succ, i64_w, i32_w]
                rfl
              refine pure_ (i := 2) (N := (some 42)) (v := ?_) (a' := ?_) (gate_Suspects.fl 29 3) rfl rfl (any_of HT_.out (by kernel_rfl)) (fun _ _ _ h => h) (Or.inl ⟨by rfl, ?_⟩) ?_ ?_
              rotate_left
              · intro w'
                go_simp
                with_reducible rfl
              rotate_left
              · simp only [Act.put, List.setIfInBounds_toArray, List.set_cons_zero, List.set_cons_succ, i64_w, i32_w]
                rfl
              refine pure_ (i := 3) (N := (some 43)) (v := ?_) (a' := ?_) (gate_Suspects.fl 29 4) rfl rfl (any_of HT_.out (by kernel_rfl)) (fun _ _ _ h => h) (Or.inl ⟨by rfl, ?_⟩) ?_ ?_
              rotate_left
              · intro w'
                go_simp
                with_reducible rfl
              rotate_left
              · simp only [Act.put, List.setIfInBounds_toArray, List.set_cons_zero, List.set_cons_succ, i64_w, i32_w]
                rfl
              refine pure_ (i := 4) (N := (some 44)) (v := ?_) (a' := ?_) (gate_Suspects.fl 29 5) rfl rfl (any_of HT_.out (by kernel_rfl)) (fun _ _ _ h => h) (Or.inl ⟨by rfl, ?_⟩) ?_ ?_
              rotate_left
              · intro w'
                go_simp
                with_reducible rfl
              rotate_left
              · simp only [Act.put, List.setIfInBounds_toArray, List.set_cons_zero, List.set_cons_succ, i64_w, i32_w]
                rfl
              refine one_ (i := 5) (N := (some 45)) (gate_Suspects.fl 29 6) rfl rfl (one_of HT_.out (by kernel_rfl)) (by decide) (fun K hK => ?_)
              refine goes_ Try.func70 (by kernel_rfl) rfl #[.pointer (some ⟨g, 0, none⟩)] (by rfl) rfl rfl (by (try simp only [List.map_toArray, List.map_cons, List.map_nil]); first | done | rfl | (simp only [List.length_drop, List.length_take]; rfl)) ?_
              refine (HVc.out HCb.out).mono ?_
              rintro e w6 ⟨rfl, ⟨nd, rfl⟩⟩
              refine ⟨_, rfl, ?_⟩
              refine hK.out _ _ ⟨show (wb.drewN nd).cell? _ = _ from hHeld.1, show (wb.drewN nd).cell? _ = _ from hHeld.2⟩ (fun hHeld => ?_)
              clear hK K
              refine norm_ (a' := ?_) ?_ ?_
              rotate_left
              · show Act.put _ (some 45) _ = _
                simp only [Act.put, List.setIfInBounds_toArray, List.set_cons_zero, List.set_cons_succ, i64_w, i32_w]
                rfl
              refine pure_ (i := 6) (N := (some 46)) (v := ?_) (a' := ?_) (gate_Suspects.fl 29 7) rfl rfl (any_of HT_.out (by kernel_rfl)) (fun _ _ _ h => h) (Or.inl ⟨by rfl, ?_⟩) ?_ ?_
              rotate_left
              · intro w'
                go_simp
                with_reducible rfl
              rotate_left
              · simp only [Act.put, List.setIfInBounds_toArray, List.set_cons_zero, List.set_cons_succ, i64_w, i32_w]
                rfl
              refine pure_ (i := 7) (N := (some 47)) (v := ?_) (a' := ?_) (gate_Suspects.fl 29 8) rfl rfl (any_of HT_.out (by kernel_rfl)) (fun _ _ _ h => h) (Or.inl ⟨by rfl, ?_⟩) ?_ ?_
              rotate_left
              · intro w'
                go_simp
                with_reducible rfl
              rotate_left
              · simp only [Act.put, List.setIfInBounds_toArray, List.set_cons_zero, List.set_cons_succ, i64_w, i32_w]
                rfl
              refine pure_ (i := 8) (N := (some 48)) (v := ?_) (a' := ?_) (gate_Suspects.fl 29 9) rfl rfl (any_of HT_.out (by kernel_rfl)) (fun _ _ _ h => h) (Or.inl ⟨by rfl, ?_⟩) ?_ ?_
              rotate_left
              · intro w'
                go_simp
                with_reducible rfl
              rotate_left
              · simp only [Act.put, List.setIfInBounds_toArray, List.set_cons_zero, List.set_cons_succ, i64_w, i32_w]
                rfl
              refine pure_ (i := 9) (N := (some 49)) (v := ?_) (a' := ?_) (gate_Suspects.fl 29 10) rfl rfl (any_of HT_.out (by kernel_rfl)) (fun _ _ _ h => h) (Or.inl ⟨by rfl, ?_⟩) ?_ ?_
              rotate_left
              · intro w'
                go_simp
                with_reducible rfl
              rotate_left
              · simp only [Act.put, List.setIfInBounds_toArray, List.set_cons_zero, List.set_cons_succ, i64_w, i32_w]
                rfl
              refine pure_ (i := 10) (N := (some 50)) (v := ?_) (a' := ?_) (gate_Suspects.fl 29 11) rfl rfl (any_of HT_.out (by kernel_rfl)) (fun _ _ _ h => h) (Or.inl ⟨by rfl, ?_⟩) ?_ ?_
              rotate_left
              · intro w'
                go_simp
                with_reducible rfl
              rotate_left
              · simp only [Act.put, List.setIfInBounds_toArray, List.set_cons_zero, List.set_cons_succ, i64_w, i32_w]
                rfl
              refine pure_ (i := 11) (N := (some 51)) (v := ?_) (a' := ?_) (gate_Suspects.fl 29 12) rfl rfl (any_of HT_.out (by kernel_rfl)) (fun _ _ _ h => h) (Or.inl ⟨by rfl, ?_⟩) ?_ ?_
              rotate_left
              · intro w'
                go_simp
                with_reducible rfl
              rotate_left
              · simp only [Act.put, List.setIfInBounds_toArray, List.set_cons_zero, List.set_cons_succ, i64_w, i32_w]
                rfl
              refine take_ (i := 12) (N := (some 52)) (v := ?_) (a' := ?_) (gate_Suspects.fl 29 13) rfl rfl (take_ofW HT_.out HW_.out (by kernel_rfl)) (fun _ _ _ h => h) (Or.inl ⟨by rfl, ?_⟩) hHeld ?_ ?_
              rotate_left
              · rintro w' ⟨s0, s1⟩
                go_simp
                with_reducible rfl
              rotate_left
              · simp only [Act.put, List.setIfInBounds_toArray, List.set_cons_zero, List.set_cons_succ, i64_w, i32_w]
                rfl
              refine pure_ (i := 13) (N := (some 53)) (v := ?_) (a' := ?_) (gate_Suspects.fl 29 14) rfl rfl (any_of HT_.out (by kernel_rfl)) (fun _ _ _ h => h) (Or.inl ⟨by rfl, ?_⟩) ?_ ?_
              rotate_left
              · intro w'
                go_simp
                with_reducible rfl
              rotate_left
              · simp only [Act.put, List.setIfInBounds_toArray, List.set_cons_zero, List.set_cons_succ, i64_w, i32_w]
                rfl
              refine pure_ (i := 14) (N := (some 54)) (v := ?_) (a' := ?_) (gate_Suspects.fl 29 15) rfl rfl (any_of HT_.out (by kernel_rfl)) (fun _ _ _ h => h) (Or.inl ⟨by rfl, ?_⟩) ?_ ?_
              rotate_left
              · intro w'
                go_simp
                with_reducible rfl
              rotate_left
              · simp only [Act.put, List.setIfInBounds_toArray, List.set_cons_zero, List.set_cons_succ, i64_w, i32_w]
                rfl
              refine pure_ (i := 15) (N := (some 55)) (v := ?_) (a' := ?_) (gate_Suspects.fl 29 16) rfl rfl (any_of HT_.out (by kernel_rfl)) (fun _ _ _ h => h) (Or.inl ⟨by rfl, ?_⟩) ?_ ?_
              rotate_left
              · intro w'
                go_simp
                with_reducible rfl
              rotate_left
              · simp only [Act.put, List.setIfInBounds_toArray, List.set_cons_zero, List.set_cons_succ, i64_w, i32_w]
                rfl
              refine pure_ (i := 16) (N := (some 56)) (v := ?_) (a' := ?_) (gate_Suspects.fl 29 17) rfl rfl (any_of HT_.out (by kernel_rfl)) (fun _ _ _ h => h) (Or.inl ⟨by rfl, ?_⟩) ?_ ?_
              rotate_left
              · intro w'
                go_simp
                with_reducible rfl
              rotate_left
              · simp only [Act.put, List.setIfInBounds_toArray, List.set_cons_zero, List.set_cons_succ, i64_w, i32_w]
                rfl
              refine pure_ (i := 17) (N := (some 57)) (v := ?_) (a' := ?_) (gate_Suspects.fl 29 18) rfl rfl (any_of HT_.out (by kernel_rfl)) (fun _ _ _ h => h) (Or.inl ⟨by rfl, ?_⟩) ?_ ?_
              rotate_left
              · intro w'
                go_simp
                with_reducible rfl
              rotate_left
              · simp only [Act.put, List.setIfInBounds_toArray, List.set_cons_zero, List.set_cons_succ, i64_w, i32_w]
                rfl
              refine pure_ (i := 18) (N := (some 58)) (v := ?_) (a' := ?_) (gate_Suspects.fl 29 19) rfl rfl (any_of HT_.out (by kernel_rfl)) (fun _ _ _ h => h) (Or.inl ⟨by rfl, ?_⟩) ?_ ?_
              rotate_left
              · intro w'
                go_simp
                with_reducible rfl
              rotate_left
              · simp only [Act.put, List.setIfInBounds_toArray, List.set_cons_zero, List.set_cons_succ, i64_w, i32_w]
                rfl
              refine take_ (i := 19) (N := (some 59)) (v := ?_) (a' := ?_) (gate_Suspects.fl 29 20) rfl rfl (take_ofW HT_.out HW_.out (by kernel_rfl)) (fun _ _ _ h => h) (Or.inl ⟨by rfl, ?_⟩) hHeld ?_ ?_
              rotate_left
              · rintro w' ⟨s0, s1⟩
                go_simp
                with_reducible rfl
              rotate_left
              · simp only [Act.put, List.setIfInBounds_toArray, List.set_cons_zero, List.set_cons_succ, i64_w, i32_w]
                rfl
              refine pure_ (i := 20) (N := (some 60)) (v := ?_) (a' := ?_) (gate_Suspects.fl 29 21) rfl rfl (any_of HT_.out (by kernel_rfl)) (fun _ _ _ h => h) (Or.inl ⟨by rfl, ?_⟩) ?_ ?_
              rotate_left
              · intro w'
                go_simp
                with_reducible rfl
              rotate_left
              · simp only [Act.put, List.setIfInBounds_toArray, List.set_cons_zero, List.set_cons_succ, i64_w, i32_w]
                rfl
              refine pure_ (i := 21) (N := (some 61)) (v := ?_) (a' := ?_) (gate_Suspects.fl 29 22) rfl rfl (any_of HT_.out (by kernel_rfl)) (fun _ _ _ h => h) (Or.inl ⟨by rfl, ?_⟩) ?_ ?_
              rotate_left
              · intro w'
                go_simp
                with_reducible rfl
              rotate_left
              · simp only [Act.put, List.setIfInBounds_toArray, List.set_cons_zero, List.set_cons_succ, i64_w, i32_w]
                rfl
              refine pure_ (i := 22) (N := (some 62)) (v := ?_) (a' := ?_) (gate_Suspects.fl 29 23) rfl rfl (any_of HT_.out (by kernel_rfl)) (fun _ _ _ h => h) (Or.inl ⟨by rfl, ?_⟩) ?_ ?_
              rotate_left
              · intro w'
                go_simp
                with_reducible rfl
              rotate_left
              · simp only [Act.put, List.setIfInBounds_toArray, List.set_cons_zero, List.set_cons_succ, i64_w, i32_w]
                rfl
              refine pure_ (i := 23) (N := (some 63)) (v := ?_) (a' := ?_) (gate_Suspects.fl 29 24) rfl rfl (any_of HT_.out (by kernel_rfl)) (fun _ _ _ h => h) (Or.inl ⟨by rfl, ?_⟩) ?_ ?_
              rotate_left
              · intro w'
                go_simp
                with_reducible rfl
              rotate_left
              · simp only [Act.put, List.setIfInBounds_toArray, List.set_cons_zero, List.set_cons_succ, i64_w, i32_w]
                rfl
              refine take_ (i := 24) (N := (some 64)) (v := ?_) (a' := ?_) (gate_Suspects.fl 29 25) rfl rfl (take_ofW HT_.out HW_.out (by kernel_rfl)) (fun _ _ _ h => h) (Or.inl ⟨by rfl, ?_⟩) hHeld ?_ ?_
              rotate_left
              · rintro w' ⟨s0, s1⟩
                go_simp
                with_reducible rfl
              rotate_left
              · simp only [Act.put, List.setIfInBounds_toArray, List.set_cons_zero, List.set_cons_succ, i64_w, i32_w]
                rfl
              refine pure_ (i := 25) (N := (some 65)) (v := ?_) (a' := ?_) (gate_Suspects.fl 29 26) rfl rfl (any_of HT_.out (by kernel_rfl)) (fun _ _ _ h => h) (Or.inl ⟨by rfl, ?_⟩) ?_ ?_
              rotate_left
              · intro w'
                go_simp
                with_reducible rfl
              rotate_left
              · simp only [Act.put, List.setIfInBounds_toArray, List.set_cons_zero, List.set_cons_succ, i64_w, i32_w]
                rfl
              refine pure_ (i := 26) (N := (some 66)) (v := ?_) (a' := ?_) (gate_Suspects.fl 29 27) rfl rfl (any_of HT_.out (by kernel_rfl)) (fun _ _ _ h => h) (Or.inl ⟨by rfl, ?_⟩) ?_ ?_
              rotate_left
              · intro w'
                go_simp
                with_reducible rfl
              rotate_left
              · simp only [Act.put, List.setIfInBounds_toArray, List.set_cons_zero, List.set_cons_succ, i64_w, i32_w]
                rfl
              refine pure_ (i := 27) (N := (some 67)) (v := ?_) (a' := ?_) (gate_Suspects.fl 29 28) rfl rfl (any_of HT_.out (by kernel_rfl)) (fun _ _ _ h => h) (Or.inl ⟨by rfl, ?_⟩) ?_ ?_
              rotate_left
              · intro w'
                go_simp
                with_reducible rfl
              rotate_left
              · simp only [Act.put, List.setIfInBounds_toArray, List.set_cons_zero, List.set_cons_succ, i64_w, i32_w]
                rfl
              refine pure_ (i := 28) (N := (some 68)) (v := ?_) (a' := ?_) (gate_Suspects.fl 29 29) rfl rfl (any_of HT_.out (by kernel_rfl)) (fun _ _ _ h => h) (Or.inl ⟨by rfl, ?_⟩) ?_ ?_
              rotate_left
              · intro w'
                go_simp
                with_reducible rfl
              rotate_left
              · simp only [Act.put, List.setIfInBounds_toArray, List.set_cons_zero, List.set_cons_succ, i64_w, i32_w]
                rfl
              refine done_ (done_of HT_.out (by kernel_rfl)) ?_
              go_wp2
              go_roundw
              case rel => exact ⟨i + 1, _, rfl, by rw [w64 (by have := Hct.out; have := HK.out; omega) (by have := Hct.out; have := HK.out; omega)]; rfl, ⟨Hct.out⟩, ⟨fun j hj => by
                by_cases e : j = i
                · rw [e]; exact HOKi.out
                · exact HA.out j (by omega)⟩, ⟨pw_below_drewN HBb.out _⟩⟩
              case measure => rw [w64 (by have := Hct.out; have := HK.out; omega) (by have := Hct.out; have := HK.out; omega)]; have := Hct.out; simp [intOf]; omega
    · have c1b : decide ((i : Int) < (n : Int)) = false := decide_eq_false ct
      have c1c : decide (i < n) = false := decide_eq_false (by omega)
      have hin : n = i := by have := Hi.out; omega
      obtain ⟨rfl, rfl⟩ := HYes.out (fun j hj => HA.out j (by omega))
      have HAll := Aside0.mk (fun j (hj : j < n) => HA.out j (by omega))
      clear ct hin
      obtain ⟨w2, hw2⟩ : ∃ w2, wq = w2 := ⟨_, rfl⟩
      subst hw2
      clear HNo HYes HSA HA HVc
      go_wp2_with (go_at_call 55; (with_reducible refine (HFl.out HCw.out).mono ?_); rintro e w5 ⟨rfl, ⟨nd0, rfl⟩⟩)
      have HB0 := Aside0.mk (pw_below_drewN HBw.out nd0)
      go_loopw [11, 72] (fun v11 v72 w' => ∃ (f : Nat) (wz : World), wz = w' ∧ v72 = .int .i64 (f : Int) ∧ Aside0 (f ≤ M) ∧ Aside0 (Kd.R (Kd.int .i64) 3 w' w1.heap.size (fun _ => True) v11 (nI (susTo cc vs rs f))) ∧ Aside0 (Below w1.heap.size w1 w')) (fun _ v _ => M - (intOf v).toNat)
      case atStart => exact ⟨0, _, rfl, rfl, ⟨Nat.zero_le _⟩, ⟨Kd.R_nil _ _ _ _ _⟩, HB0⟩
      case round =>
        obtain ⟨f, wz, rfl, rfl, Hf, HRz, HBz⟩ := hrel
        by_cases cf : (f : Int) < (M : Int)
        · have c2b : decide ((f : Int) < (M : Int)) = true := decide_eq_true cf
          have c2c : decide (f < M) = true := decide_eq_true (by omega)
          have Hcf := Aside0.mk (show f < M by omega)
          have HOf := Aside0.mk (HOu.out f (by have := HK.out; omega) (HC.out.keep HBz.out))
          rw [show fI (some f) = (f : Int) from rfl] at HOf
          have hrp := fun V => HRp.out f V
          have HRf := Aside0.mk hrp
          have hsu := HSS.out f
          have HLen := Aside0.mk (show (nI (susTo cc vs rs f)).length < 17592186044416 by rw [nI_length]; exact Nat.lt_of_le_of_lt (susTo_len cc vs rs f) (by have := HK.out; omega))
          obtain ⟨R, hR0⟩ : ∃ R, nI (GT.outsW cc (some f)) = R := ⟨_, rfl⟩
          rw [hR0] at HOf HRf
          clear hR0 hrp cf
          have HSu := Aside0.mk hsu
          clear hsu
          go_wp2_with (go_at_call 59; (with_reducible refine (HOf.out).mono ?_); rintro e w3 ⟨v3, rfl, hR, hb⟩; obtain ⟨Aw, cw, rfl⟩ := Kd.R_slice hR; have HRw := Aside0.mk (Kd.R_reads' hR); have HB3 := Aside0.mk (below_step HBz.out hb); have HR3 := Aside0.mk (Kd.R_below HRz.out hb); clear hR hb)
          go_loopw [14, 80] (fun v14 v80 w' => ∃ (j : Nat) (wy : World), wy = w' ∧ v80 = .int .i64 (j : Int) ∧ v14 = .bool (fitsTo cc vs rs f j) ∧ Aside0 (j ≤ n) ∧ Aside0 (Below w3.heap.size w3 w')) (fun _ v _ => n - (intOf v).toNat)
          case atStart => exact ⟨0, _, rfl, rfl, rfl, ⟨Nat.zero_le _⟩, ⟨Below.refl _ _⟩⟩
          case round =>
            obtain ⟨j, wy, rfl, rfl, rfl, Hj, HBy⟩ := hrel
            have HB5 := Aside0.mk (below_step HB3.out HBy.out)
            have HR5 := Aside0.mk (Kd.R_below HR3.out HBy.out)
            by_cases cj : (j : Int) < (n : Int)
            · have c3b : decide ((j : Int) < (n : Int)) = true := decide_eq_true cj
              have c3c : decide (j < n) = true := decide_eq_true (by omega)
              have hj : j < n := by omega
              have Hcj := Aside0.mk hj
              have q1 := eq_true cj
              have q2 := eq_true hj
              have q3 := eq_true (show (0 : Int) ≤ j by omega)
              have hBt5 := below_step HB1.out HB5.out
              obtain ⟨ad3, x3, hx3⟩ := Kd.at_int (H3.out _ hBt5) (j : Int) (by omega) cj
              obtain ⟨ad4, x4, hx4⟩ := Kd.at_int (H4.out _ hBt5) (j : Int) (by omega) cj
              subst x3 x4
              rw [Int.toNat_natCast] at hx3 hx4
              have hall := HAll.out j hj
              unfold susAt at hall
              rw [Bool.and_eq_true, decide_eq_true_iff] at hall
              have hP2 := HPP.out
              rw [hP2] at hall
              have hft : fitAt cc vs rs f j = decide (((GT.reply cc (some f) (rd vs (j : Int)).toNat : Nat) : Int) = rd rs (j : Int)) := rfl
              have hsf := fitsTo_succ cc vs rs f j
              rw [hft] at hsf
              obtain ⟨V, hV⟩ := Int.eq_ofNat_of_zero_le hall.1.1
              have hVP : V < P := by have := hall.1.2; omega
              rw [hV, Int.toNat_natCast] at hsf
              rw [hV] at hx3
              obtain ⟨r, hr⟩ : ∃ r, rd rs (j : Int) = r := ⟨_, rfl⟩
              rw [hr] at hx4 hsf
              have HF := Aside0.mk (HRf.out V hVP)
              obtain ⟨rep, hrep⟩ : ∃ rep, GT.reply cc (some f) V = rep := ⟨_, rfl⟩
              rw [hrep] at HF hsf
              have HX4 := Aside0.mk hx4
              have HRy := Aside0.mk (Kd.C_below HRw.out.2.2 HBy.out)
              have hRl := HRw.out.2.1
              obtain ⟨b, hb⟩ : ∃ b, fitsTo cc vs rs f j = b := ⟨_, rfl⟩
              rw [hb] at hsf ⊢
              have HSf := Aside0.mk hsf
              have HRl := Aside0.mk hRl
              clear hft hall hV hVP hr hrep hx4 hb hsf cj hj hBt5 hP2 hRl
              cases b with
              | true =>
                go_wp2
                have HRb := Aside0.mk (Kd.C_drew HRy.out)
                have HBb := Aside0.mk (below_drew1 HBy.out)
                refine start_ (n := 12) (S := fun w' => w'.cell? (ad4.add j) = some (.int .i64 r)) (ds := []) (gate_Suspects.fl 12 0) (by kernel_rfl) rfl rfl HX4.out (fun hHeld => ?_)
                refine with_tabW gate_Suspects.tab19 gate_Suspects.bits19 (fun HT_ HW_ => ?_)
                generalize wy.drew = wb at HRb HBb hHeld ⊢
                refine pure_ (i := 0) (N := (some 85)) (v := ?_) (a' := ?_) (gate_Suspects.fl 12 1) rfl rfl (any_of HT_.out (by kernel_rfl)) (fun _ _ _ h => h) (Or.inl ⟨by rfl, ?_⟩) ?_ ?_
                rotate_left
                · intro w'
                  go_simp
                  with_reducible rfl
                rotate_left
                · simp only [Act.put, List.setIfInBounds_toArray, List.set_cons_zero, List.set_cons_succ, i64_w, i32_w]
                  rfl
                refine pure_ (i := 1) (N := (some 86)) (v := ?_) (a' := ?_) (gate_Suspects.fl 12 2) rfl rfl (any_of HT_.out (by kernel_rfl)) (fun _ _ _ h => h) (Or.inl ⟨by rfl, ?_⟩) ?_ ?_
                rotate_left
                · intro w'
                  go_simp
                  with_reducible rfl
                rotate_left
                · simp only [Act.put, List.setIfInBounds_toArray, List.set_cons_zero, List.set_cons_succ, i64_w, i32_w]
                  rfl
                refine pure_ (i := 2) (N := (some 87)) (v := ?_) (a' := ?_) (gate_Suspects.fl 12 3) rfl rfl (any_of HT_.out (by kernel_rfl)) (fun _ _ _ h => h) (Or.inl ⟨by rfl, ?_⟩) ?_ ?_
                rotate_left
                · intro w'
                  go_simp
                  with_reducible rfl
                rotate_left
                · simp only [Act.put, List.setIfInBounds_toArray, List.set_cons_zero, List.set_cons_succ, i64_w, i32_w]
                  rfl
                refine pure_ (i := 3) (N := (some 88)) (v := ?_) (a' := ?_) (gate_Suspects.fl 12 4) rfl rfl (any_of HT_.out (by kernel_rfl)) (fun _ _ _ h => h) (Or.inl ⟨by rfl, ?_⟩) ?_ ?_
                rotate_left
                · intro w'
                  go_simp
                  with_reducible rfl
                rotate_left
                · simp only [Act.put, List.setIfInBounds_toArray, List.set_cons_zero, List.set_cons_succ, i64_w, i32_w]
                  rfl
                refine pure_ (i := 5) (N := (some 90)) (v := ?_) (a' := ?_) #[true, true, true, true, false, true, false, false, false, false, false, false] rfl rfl (any_of HT_.out (by kernel_rfl)) (fun _ _ _ h => h) (Or.inl ⟨by rfl, ?_⟩) ?_ ?_
                rotate_left
                · intro w'
                  go_simp
                  with_reducible rfl
                rotate_left
                · simp only [Act.put, List.setIfInBounds_toArray, List.set_cons_zero, List.set_cons_succ, i64_w, i32_w]
                  rfl
                refine pure_ (i := 6) (N := (some 91)) (v := ?_) (a' := ?_) #[true, true, true, true, false, true, true, false, false, false, false, false] rfl rfl (any_of HT_.out (by kernel_rfl)) (fun _ _ _ h => h) (Or.inl ⟨by rfl, ?_⟩) ?_ ?_
                rotate_left
                · intro w'
                  go_simp
                  with_reducible rfl
                rotate_left
                · simp only [Act.put, List.setIfInBounds_toArray, List.set_cons_zero, List.set_cons_succ, i64_w, i32_w]
                  rfl
                refine pure_ (i := 7) (N := (some 92)) (v := ?_) (a' := ?_) #[true, true, true, true, false, true, true, true, false, false, false, false] rfl rfl (any_of HT_.out (by kernel_rfl)) (fun _ _ _ h => h) (Or.inl ⟨by rfl, ?_⟩) ?_ ?_
                rotate_left
                · intro w'
                  go_simp
                  with_reducible rfl
                rotate_left
                · simp only [Act.put, List.setIfInBounds_toArray, List.set_cons_zero, List.set_cons_succ, i64_w, i32_w]
                  rfl
                refine take_ (i := 8) (N := (some 93)) (v := ?_) (a' := ?_) #[true, true, true, true, false, true, true, true, true, false, false, false] rfl rfl (take_ofW HT_.out HW_.out (by kernel_rfl)) (fun _ _ _ h => h) (Or.inl ⟨by rfl, ?_⟩) hHeld ?_ ?_
                rotate_left
                · rintro w' s0
                  go_simp
                  with_reducible rfl
                rotate_left
                · simp only [Act.put, List.setIfInBounds_toArray, List.set_cons_zero, List.set_cons_succ, i64_w, i32_w]
                  rfl
                refine one_ (i := 4) (N := (some 89)) (gate_Suspects.fl 12 9) rfl rfl (one_of HT_.out (by kernel_rfl)) (by decide) (fun K hK => ?_)
                refine goes_ Try.func81 (by kernel_rfl) rfl #[.slice Aw R.length cw, .int .i64 (V : Int)] (by rfl) rfl rfl (by (try simp only [List.map_toArray, List.map_cons, List.map_nil]); first | done | rfl | (simp only [List.length_drop, List.length_take]; rfl)) ?_
                refine (gate_reply.calls 10 Aw cw R (V : Int) (rep : Int) _ HRb.out HRl.out HF.out).mono ?_
                rintro e w6 ⟨rfl, ⟨nd, rfl⟩⟩
                refine ⟨_, rfl, ?_⟩
                refine hK.out _ _ (show (wb.drewN nd).cell? _ = _ from hHeld) (fun hHeld => ?_)
                clear hK K
                refine norm_ (a' := ?_) ?_ ?_
                rotate_left
                · show Act.put _ (some 89) _ = _
                  simp only [Act.put, List.setIfInBounds_toArray, List.set_cons_zero, List.set_cons_succ, i64_w, i32_w]
                  rfl
                refine pure_ (i := 9) (N := (some 94)) (v := ?_) (a' := ?_) (gate_Suspects.fl 12 10) rfl rfl (any_of HT_.out (by kernel_rfl)) (fun _ _ _ h => h) (Or.inl ⟨by rfl, ?_⟩) ?_ ?_
                rotate_left
                · intro w'
                  go_simp
                  with_reducible rfl
                rotate_left
                · simp only [Act.put, List.setIfInBounds_toArray, List.set_cons_zero, List.set_cons_succ, i64_w, i32_w]
                  rfl
                refine pure_ (i := 10) (N := (some 95)) (v := ?_) (a' := ?_) (gate_Suspects.fl 12 11) rfl rfl (any_of HT_.out (by kernel_rfl)) (fun _ _ _ h => h) (Or.inl ⟨by rfl, ?_⟩) ?_ ?_
                rotate_left
                · intro w'
                  go_simp
                  with_reducible rfl
                rotate_left
                · simp only [Act.put, List.setIfInBounds_toArray, List.set_cons_zero, List.set_cons_succ, i64_w, i32_w]
                  rfl
                refine pure_ (i := 11) (N := (some 14)) (v := ?_) (a' := ?_) (gate_Suspects.fl 12 12) rfl rfl (any_of HT_.out (by kernel_rfl)) (fun _ _ _ h => h) (Or.inl ⟨by rfl, ?_⟩) ?_ ?_
                rotate_left
                · intro w'
                  go_simp
                  with_reducible rfl
                rotate_left
                · simp only [Act.put, List.setIfInBounds_toArray, List.set_cons_zero, List.set_cons_succ, i64_w, i32_w]
                  rfl
                refine done_ (done_of HT_.out (by kernel_rfl)) ?_
                go_wp2
                go_roundw
                case rel => exact ⟨j + 1, _, rfl, by rw [w64 (by have := Hcj.out; have := HK.out; omega) (by have := Hcj.out; have := HK.out; omega)]; rfl, by rw [HSf.out]; first | rfl | simp, ⟨Hcj.out⟩, ⟨pw_below_drewN HBb.out _⟩⟩
                case measure => rw [w64 (by have := Hcj.out; have := HK.out; omega) (by have := Hcj.out; have := HK.out; omega)]; have := Hcj.out; simp [intOf]; omega
              | false =>
                go_wp2
                have HRb := Aside0.mk (Kd.C_drew HRy.out)
                have HBb := Aside0.mk (below_drew1 HBy.out)
                refine start_ (n := 12) (S := fun w' => w'.cell? (ad4.add j) = some (.int .i64 r)) (ds := []) (gate_Suspects.fl 12 0) (by kernel_rfl) rfl rfl HX4.out (fun hHeld => ?_)
                refine with_tabW gate_Suspects.tab19 gate_Suspects.bits19 (fun HT_ HW_ => ?_)
                generalize wy.drew = wb at HRb HBb hHeld ⊢
                refine pure_ (i := 0) (N := (some 85)) (v := ?_) (a' := ?_) (gate_Suspects.fl 12 1) rfl rfl (any_of HT_.out (by kernel_rfl)) (fun _ _ _ h => h) (Or.inl ⟨by rfl, ?_⟩) ?_ ?_
                rotate_left
                · intro w'
                  go_simp
                  with_reducible rfl
                rotate_left
                · simp only [Act.put, List.setIfInBounds_toArray, List.set_cons_zero, List.set_cons_succ, i64_w, i32_w]
                  rfl
                refine pure_ (i := 1) (N := (some 86)) (v := ?_) (a' := ?_) (gate_Suspects.fl 12 2) rfl rfl (any_of HT_.out (by kernel_rfl)) (fun _ _ _ h => h) (Or.inl ⟨by rfl, ?_⟩) ?_ ?_
                rotate_left
                · intro w'
                  go_simp
                  with_reducible rfl
                rotate_left
                · simp only [Act.put, List.setIfInBounds_toArray, List.set_cons_zero, List.set_cons_succ, i64_w, i32_w]
                  rfl
                refine pure_ (i := 2) (N := (some 87)) (v := undef) (a' := ?_) (gate_Suspects.fl 12 3) rfl rfl (any_of HT_.out (by kernel_rfl)) (fun _ _ _ h => h) (Or.inr ⟨by rfl, rfl⟩) ?_ ?_
                rotate_left
                · simp only [Act.put, List.setIfInBounds_toArray, List.set_cons_zero, List.set_cons_succ, i64_w, i32_w]
                  rfl
                refine pure_ (i := 3) (N := (some 88)) (v := undef) (a' := ?_) (gate_Suspects.fl 12 4) rfl rfl (any_of HT_.out (by kernel_rfl)) (fun _ _ _ h => h) (Or.inr ⟨by rfl, rfl⟩) ?_ ?_
                rotate_left
                · simp only [Act.put, List.setIfInBounds_toArray, List.set_cons_zero, List.set_cons_succ, i64_w, i32_w]
                  rfl
                refine pure_ (i := 4) (N := (some 89)) (v := undef) (a' := ?_) (gate_Suspects.fl 12 5) rfl rfl (any_of HT_.out (by kernel_rfl)) (fun _ _ _ h => h) (Or.inr ⟨by rfl, rfl⟩) ?_ ?_
                rotate_left
                · simp only [Act.put, List.setIfInBounds_toArray, List.set_cons_zero, List.set_cons_succ, i64_w, i32_w]
                  rfl
                refine pure_ (i := 5) (N := (some 90)) (v := undef) (a' := ?_) (gate_Suspects.fl 12 6) rfl rfl (any_of HT_.out (by kernel_rfl)) (fun _ _ _ h => h) (Or.inr ⟨by rfl, rfl⟩) ?_ ?_
                rotate_left
                · simp only [Act.put, List.setIfInBounds_toArray, List.set_cons_zero, List.set_cons_succ, i64_w, i32_w]
                  rfl
                refine pure_ (i := 6) (N := (some 91)) (v := undef) (a' := ?_) (gate_Suspects.fl 12 7) rfl rfl (any_of HT_.out (by kernel_rfl)) (fun _ _ _ h => h) (Or.inr ⟨by rfl, rfl⟩) ?_ ?_
                rotate_left
                · simp only [Act.put, List.setIfInBounds_toArray, List.set_cons_zero, List.set_cons_succ, i64_w, i32_w]
                  rfl
                refine pure_ (i := 7) (N := (some 92)) (v := undef) (a' := ?_) (gate_Suspects.fl 12 8) rfl rfl (any_of HT_.out (by kernel_rfl)) (fun _ _ _ h => h) (Or.inr ⟨by rfl, rfl⟩) ?_ ?_
                rotate_left
                · simp only [Act.put, List.setIfInBounds_toArray, List.set_cons_zero, List.set_cons_succ, i64_w, i32_w]
                  rfl
                refine pure_ (i := 8) (N := (some 93)) (v := undef) (a' := ?_) (gate_Suspects.fl 12 9) rfl rfl (any_of HT_.out (by kernel_rfl)) (fun _ _ _ h => h) (Or.inr ⟨by rfl, rfl⟩) ?_ ?_
                rotate_left
                · simp only [Act.put, List.setIfInBounds_toArray, List.set_cons_zero, List.set_cons_succ, i64_w, i32_w]
                  rfl
                refine pure_ (i := 9) (N := (some 94)) (v := undef) (a' := ?_) (gate_Suspects.fl 12 10) rfl rfl (any_of HT_.out (by kernel_rfl)) (fun _ _ _ h => h) (Or.inr ⟨by rfl, rfl⟩) ?_ ?_
                rotate_left
                · simp only [Act.put, List.setIfInBounds_toArray, List.set_cons_zero, List.set_cons_succ, i64_w, i32_w]
                  rfl
                refine pure_ (i := 10) (N := (some 95)) (v := ?_) (a' := ?_) (gate_Suspects.fl 12 11) rfl rfl (any_of HT_.out (by kernel_rfl)) (fun _ _ _ h => h) (Or.inl ⟨by rfl, ?_⟩) ?_ ?_
                rotate_left
                · intro w'
                  go_simp
                  with_reducible rfl
                rotate_left
                · simp only [Act.put, List.setIfInBounds_toArray, List.set_cons_zero, List.set_cons_succ, i64_w, i32_w]
                  rfl
                refine pure_ (i := 11) (N := (some 14)) (v := ?_) (a' := ?_) (gate_Suspects.fl 12 12) rfl rfl (any_of HT_.out (by kernel_rfl)) (fun _ _ _ h => h) (Or.inl ⟨by rfl, ?_⟩) ?_ ?_
                rotate_left
                · intro w'
                  go_simp
                  with_reducible rfl
                rotate_left
                · simp only [Act.put, List.setIfInBounds_toArray, List.set_cons_zero, List.set_cons_succ, i64_w, i32_w]
                  rfl
                refine done_ (done_of HT_.out (by kernel_rfl)) ?_
                go_wp2
                go_roundw
                case rel => exact ⟨j + 1, _, rfl, by rw [w64 (by have := Hcj.out; have := HK.out; omega) (by have := Hcj.out; have := HK.out; omega)]; rfl, by rw [HSf.out]; first | rfl | simp, ⟨Hcj.out⟩, ⟨HBb.out⟩⟩
                case measure => rw [w64 (by have := Hcj.out; have := HK.out; omega) (by have := Hcj.out; have := HK.out; omega)]; have := Hcj.out; simp [intOf]; omega
            · have c3b : decide ((j : Int) < (n : Int)) = false := decide_eq_false cj
              have c3c : decide (j < n) = false := decide_eq_false (by omega)
              have hjn : n = j := by have := Hj.out; omega
              have HJN := Aside0.mk hjn
              clear cj hjn
              have hsu := HSu.out
              rw [HJN.out] at hsu
              obtain ⟨b, hb⟩ : ∃ b, fitsTo cc vs rs f j = b := ⟨_, rfl⟩
              rw [hb] at hsu ⊢
              cases b with
              | true =>
                rw [if_pos rfl] at hsu
                have HTK := Aside0.mk (show nI (susTo cc vs rs f) ++ [(f : Int)] = nI (susTo cc vs rs (f + 1)) by rw [hsu, nI_snoc])
                clear hsu hb
                go_wp2_with ((with_reducible refine gate_builtin (b := .append) (xs := #[.tmp 98, .tmp 100]) rfl ?_); at_builtin; refine Kd.R_append (Kd.int .i64) (w0 := w1) w1.heap.size rfl (.tmp 98) (.tmp 100) 23 3 (.int .i64 0) 8 rfl Try.underlying23 info3 rfl (by decide) (by omega) _ (nI (susTo cc vs rs f)) (f : Int) [.int .i64 (f : Int)] (fun _ => True) (fun _ => False) rfl rfl ?aP (fun _ hk => hk.elim) ?aF ?aO ?aB ?aS ?aL ?_; (case aP => exact rfl); (case aB => exact (by repeat (first | (with_reducible first | exact HB5.out | apply below_alloc | apply pw_below_drewN | apply below_drew1) | exact HB5.out))); (case aF => exact (fun _ _ => trivial)); (case aO => exact (by (with_reducible repeat (first | apply Kd.R_alloc | apply Kd.R_drewN | apply Kd.R_drew)); exact HR5.out)); (case aS => exact (below_size (by repeat (first | (with_reducible first | exact HB5.out | apply below_alloc | apply pw_below_drewN | apply below_drew1) | exact HB5.out)))); (case aL => have := HLen.out; omega); intro v243 w7 ho hb hg hat; rw [HTK.out] at ho; have HB9 := Aside0.mk (hb); have HR9 := Aside0.mk (ho); clear ho hb hg hat)
                go_roundw
                case rel => exact ⟨f + 1, _, rfl, by rw [w64 (by have := Hcf.out; have := HK.out; omega) (by have := Hcf.out; have := HK.out; omega)]; rfl, ⟨Hcf.out⟩, HR9, HB9⟩
                case measure => rw [w64 (by have := Hcf.out; have := HK.out; omega) (by have := Hcf.out; have := HK.out; omega)]; have := Hcf.out; simp [intOf]; omega
              | false =>
                rw [if_neg (by decide)] at hsu
                have HTK := Aside0.mk hsu
                clear hsu hb
                go_wp2
                go_roundw
                case rel => exact ⟨f + 1, _, rfl, by rw [w64 (by have := Hcf.out; have := HK.out; omega) (by have := Hcf.out; have := HK.out; omega)]; rfl, ⟨Hcf.out⟩, ⟨by rw [HTK.out]; exact HR5.out⟩, HB5⟩
                case measure => rw [w64 (by have := Hcf.out; have := HK.out; omega) (by have := Hcf.out; have := HK.out; omega)]; have := Hcf.out; simp [intOf]; omega
        · have c2b : decide ((f : Int) < (M : Int)) = false := decide_eq_false cf
          have c2c : decide (f < M) = false := decide_eq_false (by omega)
          have hfM : M = f := by have := Hf.out; omega
          subst hfM
          clear cf
          go_wp2
          go_ret2
          exact ⟨_, rfl, R_low HRz.out HB1.out.size, below_step HB1.out HBz.out⟩
theorem gate_Suspects.calls (a0 : Int) (A1 : Option Addr) (c1 : Nat) (l1 : List S40) (A2 : Option Addr) (c2 : Nat) (l2 : List Int) (A3 : Option Addr) (c3 : Nat) (vs : List Int) (A4 : Option Addr) (c4 : Nat) (rs : List Int) (r1 : List Int) (r2 : Int) (w : World) (hr1 : Kd.C k40 w A1 l1.length l1) (hc1 : l1.length ≤ c1) (hr2 : Kd.C (Kd.int .i64) w A2 l2.length l2) (hc2 : l2.length ≤ c2) (hr3 : Kd.C (Kd.int .i64) w A3 vs.length vs) (hc3 : vs.length ≤ c3) (hr4 : Kd.C (Kd.int .i64) w A4 rs.length rs) (hc4 : rs.length ≤ c4) (h : gate_Suspects.f a0 l1 l2 vs rs = some (r1, r2)) :
    Calls Try.prog 45 #[.agg #[.int .i64 a0, .slice A1 l1.length c1, .slice A2 l2.length c2], .slice A3 vs.length c3, .slice A4 rs.length c4] w fun e w' => ∃ v0_ : Value, e = .returned (.tuple #[v0_, .int .i64 r2]) ∧ Kd.R (Kd.int .i64) 3 w' w.heap.size (fun _ => True) v0_ r1 ∧ Below w.heap.size w w' := by
  unfold gate_Suspects.f at h
  injection h with h
  have hno : ¬ (okC a0 l1 l2 = true ∧ vs.length = rs.length ∧ vs.length ≤ 64 ∧ susOk a0.toNat l2.length vs rs = true) → r1 = [] ∧ r2 = 2 := fun hn => by
    rw [if_neg hn] at h
    injection h with h1 h2
    exact ⟨h1.symm, h2.symm⟩
  cases hok : okC a0 l1 l2 with
  | false =>
    obtain ⟨rfl, rfl⟩ := hno (fun e => by have := e.1; rw [hok] at this; cases this)
    exact sus_nil a0 A1 c1 l1 A2 c2 l2 A3 c3 vs A4 c4 rs w hr1 hc1 hr2 hc2 hr3 hc3 hr4 hc4 hok
  | true =>
    obtain ⟨N, rfl⟩ : ∃ N : Nat, a0 = (N : Int) := ⟨a0.toNat, by have := okC_small hok; omega⟩
    by_cases hl : vs.length = rs.length
    · by_cases hb : vs.length ≤ 64
      · refine sus_main N A1 c1 l1 A2 c2 l2 A3 c3 vs A4 c4 rs w hr1 hc1 hr2 hc2 hr3 hc3 hr4 hc4 hok hl hb r1 r2 ?_
        by_cases hs : susOk N l2.length vs rs = true
        · rw [if_pos hs]
          rw [if_pos ⟨hok, hl, hb, by rw [Int.toNat_natCast]; exact hs⟩, Int.toNat_natCast] at h
          exact h
        · rw [if_neg hs]
          obtain ⟨rfl, rfl⟩ := hno (fun e => hs (by have := e.2.2.2; rwa [Int.toNat_natCast] at this))
          rfl
      · obtain ⟨rfl, rfl⟩ := hno (fun e => hb e.2.2.1)
        exact sus_big N A1 c1 l1 A2 c2 l2 A3 c3 vs A4 c4 rs w hr1 hc1 hr2 hc2 hr3 hc3 hr4 hc4 hok hl (by omega)
    · obtain ⟨rfl, rfl⟩ := hno (fun e => hl e.2.1)
      exact sus_len N A1 c1 l1 A2 c2 l2 A3 c3 vs A4 c4 rs w hr1 hc1 hr2 hc2 hr3 hc3 hr4 hc4 hok hl
end Go.Proofs.Ytelfalicickelaa.P
