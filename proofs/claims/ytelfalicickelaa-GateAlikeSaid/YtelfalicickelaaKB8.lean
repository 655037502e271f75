/- Texts of this claim, merged by a program (shake.py): what the last theorems reach of QFail, Pf22, QAlive. -/
import Derived.Test.YtelfalicickelaaKB7
import Derived.Test.YtelfalicickelaaKB1
import Derived.Test.YtelfalicickelaaKB5
import Derived.Test.YtelfalicickelaaKB6
set_option linter.unusedSimpArgs false
set_option linter.unusedVariables false
namespace Go.Proofs.Ytelfalicickelaa.P
open Go.Lib Go.RowKit Go.Proofs.YtelfalicickelaaW.PrintWords Go.Proofs.YtelfalicickelaaW.PrintLast Go.Proofs.YtelfalicickelaaW.PrintMore Go.Proofs.Ytelfalicickelaa.Kit
def stuckOk (n : Nat) (L a : Int) : Prop := 0 ≤ L ∧ L < (n : Int) ∧ 0 ≤ a ∧ a ≤ 1
instance (n : Nat) (L a : Int) : Decidable (stuckOk n L a) := by unfold stuckOk; infer_instance
theorem failN_ok {n : Nat} {L a : Int} (h : stuckOk n L a) : failN n L a = (((2 * L + a).toNat : Nat) : Int) ∧ (2 * L + a).toNat < 2 * n := by
  unfold stuckOk at h
  unfold failN
  rw [if_pos h]
  omega
theorem failN_no {n : Nat} {L a : Int} (h : ¬ stuckOk n L a) : failN n L a = -1 := by unfold failN; exact if_neg h
def gate_Failed.f (a0 : Int) (l1 : List S40) (l2 : List Int) (L a v : Int) : Option (Int × Int) :=
  some (if okC a0 l1 l2 = true ∧ stuckOk (a0.toNat + l1.length) L a ∧ vecOk a0 v then (((GT.reply (toC a0.toNat l1 l2) (some (2 * L + a).toNat) v.toNat : Nat) : Int), 0) else (0, 2))
def gate_Test.f (a0 : Int) (l1 : List S40) (l2 : List Int) (L a : Int) : Option (Int × Int) :=
  some (if okC a0 l1 l2 = true ∧ stuckOk (a0.toNat + l1.length) L a then (match GT.memb (GT.shows (toC a0.toNat l1 l2) (2 * L + a).toNat) with | [] => (0, 10) | v :: _ => ((v : Int), 0)) else (0, 2))
set_option maxHeartbeats 8000000
set_option maxRecDepth 100000
theorem failed_ok (N : Nat) (L a v : Int) (A1 : Option Addr) (c1 : Nat) (l1 : List S40) (A2 : Option Addr) (c2 : Nat) (l2 : List Int) (w : World) (hr1 : Kd.C k40 w A1 l1.length l1) (hc1 : l1.length ≤ c1) (hr2 : Kd.C (Kd.int .i64) w A2 l2.length l2) (hc2 : l2.length ≤ c2) (hok : okC (N : Int) l1 l2 = true) (hst : stuckOk (N + l1.length) L a) (hv : vecOk (N : Int) v) :
    Calls Try.prog 42 #[.agg #[.int .i64 (N : Int), .slice A1 l1.length c1, .slice A2 l2.length c2], .agg #[.int .i64 L, .int .i64 a], .int .i64 v] w fun e w' => e = .returned (.tuple #[.int .i64 ((GT.reply (toC N l1 l2) (some (2 * L + a).toNat) v.toNat : Nat) : Int), .int .i64 0]) ∧ Below w.heap.size w w' := by
  have hs := okC_small hok
  have hN6 : N ≤ 6 := by omega
  have hl16 : l1.length ≤ 16 := by omega
  obtain ⟨w0, hw0⟩ : ∃ w0, (w.alloc (.cells #[.int .i64 (N : Int), .slice A1 l1.length c1, .slice A2 l2.length c2] 25)).alloc (.cells #[.int .i64 L, .int .i64 a] 44) = w0 := ⟨_, rfl⟩
  have HB := Aside0.mk (show Below w.heap.size w w0 by rw [← hw0]; exact below_alloc (below_alloc (Below.refl _ _) _) _)
  have hb0 : w0.cell? ⟨w.heap.size + 1, 0, none⟩ = some (.int .i64 L) := by
    rw [← hw0]
    have := cell_new (w.alloc (.cells #[.int .i64 (N : Int), .slice A1 l1.length c1, .slice A2 l2.length c2] 25)) #[.int .i64 L, .int .i64 a] 44 0 rfl
    rwa [World.size_alloc] at this
  have hb1 : w0.cell? ⟨w.heap.size + 1, 1, none⟩ = some (.int .i64 a) := by
    rw [← hw0]
    have := cell_new (w.alloc (.cells #[.int .i64 (N : Int), .slice A1 l1.length c1, .slice A2 l2.length c2] 25)) #[.int .i64 L, .int .i64 a] 44 1 rfl
    rwa [World.size_alloc] at this
  have HB0 := Aside0.mk hb0
  have HB1' := Aside0.mk hb1
  have HO := Aside0.mk (of_ok N l1 l2 A1 c1 A2 c2 w0 hok (Kd.C_below hr1 HB.out) hc1 (Kd.C_below hr2 HB.out) hc2)
  have HFa := Aside0.mk (fun {W : World} {g : Nat} (hC : CircAt W g N l1 l2) => failure_calls L a hC hN6 hl16)
  have HVc := Aside0.mk (fun {W : World} {g : Nat} (hC : CircAt W g N l1 l2) => vectors_calls hC hN6)
  have hfn := (failN_ok hst).1
  have hf2 := (failN_ok hst).2
  unfold vecOk at hv
  rw [Int.toNat_natCast] at hv
  obtain ⟨V, rfl⟩ := Int.eq_ofNat_of_zero_le hv.1
  have hV : V < 2 ^ N := by omega
  obtain ⟨f, hf⟩ : ∃ f, (2 * L + a).toNat = f := ⟨_, rfl⟩
  rw [hf] at hfn hf2
  rw [Int.toNat_natCast, hf]
  have hF := reply_at l1 l2 hN6 hs.2.2.2.2 (some f) V hV
  have HOu := Aside0.mk (fun {W : World} {g : Nat} (hC : CircAt W g N l1 l2) => outs_calls (some f) (fun q hq => by cases hq; omega) hok hC)
  rw [show fI (some f) = (f : Int) from rfl] at HOu
  have HFn := Aside0.mk hfn
  have d0 : decide ((f : Int) < 0) = false := decide_eq_false (by omega)
  have d1 : decide ((V : Int) < 0) = false := decide_eq_false (by omega)
  have d2 : decide (((2 ^ N : Nat) : Int) ≤ (V : Int)) = false := decide_eq_false (by omega)
  have d3 : decide (2 ^ N ≤ V) = false := decide_eq_false (by omega)
  clear hst hv hfn hf hf2 hV
  generalize nI (GT.outsW (toC N l1 l2) (some f)) = R at *
  generalize GT.reply (toC N l1 l2) (some f) V = r at *
  have HF := Aside0.mk hF
  clear hF
  generalize 2 ^ N = P at *
  clear hr1 hc1 hr2 hc2 hok hN6 hl16 hs hb0 hb1
  go_enter Try.func42, Try.ntmps42
  rw [← hw0] at *
  go_wp2_with (first | (go_at_call 54; (with_reducible refine (HO.out).mono ?_); rintro e w1 ⟨g, rfl, hC, hb⟩; have HC := Aside0.mk hC; have y0 := pw_cell_below hb HB0.out; have y1 := pw_cell_below hb HB1'.out; have HY := Aside0.mk (And.intro y0 y1); have HB1 := Aside0.mk (HB.out.trans (hb.mono HB.out.size)); clear hC hb) | (go_at_call 73; (with_reducible refine (HFa.out HC.out).mono ?_); rintro e w2 ⟨rfl, hb⟩; rw [HFn.out]; have z0 := pw_cell_below hb HY.out.1; have z1 := pw_cell_below hb HY.out.2; have HZ := Aside0.mk (And.intro z0 z1); have HC2 := Aside0.mk (HC.out.keep hb); have HB2 := Aside0.mk (HB1.out.trans (hb.mono HB1.out.size)); clear hb) | (go_at_call 70; (with_reducible refine (HVc.out HC2.out).mono ?_); rintro e w3 ⟨rfl, ⟨nd, rfl⟩⟩) | (go_at_call 73; (with_reducible refine (HFa.out (HC2.out.drewN _)).mono ?_); rintro e w4 ⟨rfl, hb⟩; rw [HFn.out]; have HC4 := Aside0.mk ((HC2.out.drewN _).keep hb); have HB4 := Aside0.mk ((pw_below_drewN HB2.out _).trans (hb.mono (pw_below_drewN HB2.out _).size)); clear hb) | (go_at_call 59; (with_reducible refine (HOu.out HC4.out).mono ?_); rintro e w5 ⟨v5, rfl, hR, hb⟩; obtain ⟨A5, c5, rfl⟩ := Kd.R_slice hR; have HR5 := Aside0.mk (Kd.R_reads' hR); have HB5 := Aside0.mk (HB4.out.trans (hb.mono HB4.out.size)); clear hR hb) | (go_at_call 81; (with_reducible refine (gate_reply.calls 10 A5 c5 R (V : Int) (r : Int) _ HR5.out.2.2 HR5.out.2.1 HF.out).mono ?_); rintro e w6 ⟨rfl, ⟨nd6, rfl⟩⟩))
  go_ret2
  exact ⟨rfl, by exact pw_below_drewN HB5.out _⟩
theorem failed_st (N : Nat) (L a v : Int) (A1 : Option Addr) (c1 : Nat) (l1 : List S40) (A2 : Option Addr) (c2 : Nat) (l2 : List Int) (w : World) (hr1 : Kd.C k40 w A1 l1.length l1) (hc1 : l1.length ≤ c1) (hr2 : Kd.C (Kd.int .i64) w A2 l2.length l2) (hc2 : l2.length ≤ c2) (hok : okC (N : Int) l1 l2 = true) (hst : ¬ stuckOk (N + l1.length) L a) :
    Calls Try.prog 42 #[.agg #[.int .i64 (N : Int), .slice A1 l1.length c1, .slice A2 l2.length c2], .agg #[.int .i64 L, .int .i64 a], .int .i64 v] w fun e w' => e = .returned (.tuple #[.int .i64 0, .int .i64 2]) ∧ Below w.heap.size w w' := by
  have hs := okC_small hok
  have hN6 : N ≤ 6 := by omega
  have hl16 : l1.length ≤ 16 := by omega
  obtain ⟨w0, hw0⟩ : ∃ w0, (w.alloc (.cells #[.int .i64 (N : Int), .slice A1 l1.length c1, .slice A2 l2.length c2] 25)).alloc (.cells #[.int .i64 L, .int .i64 a] 44) = w0 := ⟨_, rfl⟩
  have HB := Aside0.mk (show Below w.heap.size w w0 by rw [← hw0]; exact below_alloc (below_alloc (Below.refl _ _) _) _)
  have hb0 : w0.cell? ⟨w.heap.size + 1, 0, none⟩ = some (.int .i64 L) := by
    rw [← hw0]
    have := cell_new (w.alloc (.cells #[.int .i64 (N : Int), .slice A1 l1.length c1, .slice A2 l2.length c2] 25)) #[.int .i64 L, .int .i64 a] 44 0 rfl
    rwa [World.size_alloc] at this
  have hb1 : w0.cell? ⟨w.heap.size + 1, 1, none⟩ = some (.int .i64 a) := by
    rw [← hw0]
    have := cell_new (w.alloc (.cells #[.int .i64 (N : Int), .slice A1 l1.length c1, .slice A2 l2.length c2] 25)) #[.int .i64 L, .int .i64 a] 44 1 rfl
    rwa [World.size_alloc] at this
  have HB0 := Aside0.mk hb0
  have HB1' := Aside0.mk hb1
  have HO := Aside0.mk (of_ok N l1 l2 A1 c1 A2 c2 w0 hok (Kd.C_below hr1 HB.out) hc1 (Kd.C_below hr2 HB.out) hc2)
  have HFa := Aside0.mk (fun {W : World} {g : Nat} (hC : CircAt W g N l1 l2) => failure_calls L a hC hN6 hl16)
  have HVc := Aside0.mk (fun {W : World} {g : Nat} (hC : CircAt W g N l1 l2) => vectors_calls hC hN6)
  have HFn := Aside0.mk (failN_no hst)
  clear hst
  generalize 2 ^ N = P at *
  clear hr1 hc1 hr2 hc2 hok hN6 hl16 hs hb0 hb1
  go_enter Try.func42, Try.ntmps42
  rw [← hw0] at *
  go_wp2_with (first | (go_at_call 54; (with_reducible refine (HO.out).mono ?_); rintro e w1 ⟨g, rfl, hC, hb⟩; have HC := Aside0.mk hC; have y0 := pw_cell_below hb HB0.out; have y1 := pw_cell_below hb HB1'.out; have HY := Aside0.mk (And.intro y0 y1); have HB1 := Aside0.mk (HB.out.trans (hb.mono HB.out.size)); clear hC hb) | (go_at_call 73; (with_reducible refine (HFa.out HC.out).mono ?_); rintro e w2 ⟨rfl, hb⟩; rw [HFn.out]; have z0 := pw_cell_below hb HY.out.1; have z1 := pw_cell_below hb HY.out.2; have HZ := Aside0.mk (And.intro z0 z1); have HC2 := Aside0.mk (HC.out.keep hb); have HB2 := Aside0.mk (HB1.out.trans (hb.mono HB1.out.size)); clear hb))
  go_ret2
  exact ⟨rfl, by exact HB2.out⟩
theorem failed_neg (N : Nat) (L a v : Int) (A1 : Option Addr) (c1 : Nat) (l1 : List S40) (A2 : Option Addr) (c2 : Nat) (l2 : List Int) (w : World) (hr1 : Kd.C k40 w A1 l1.length l1) (hc1 : l1.length ≤ c1) (hr2 : Kd.C (Kd.int .i64) w A2 l2.length l2) (hc2 : l2.length ≤ c2) (hok : okC (N : Int) l1 l2 = true) (hst : stuckOk (N + l1.length) L a) (hv : v < 0) :
    Calls Try.prog 42 #[.agg #[.int .i64 (N : Int), .slice A1 l1.length c1, .slice A2 l2.length c2], .agg #[.int .i64 L, .int .i64 a], .int .i64 v] w fun e w' => e = .returned (.tuple #[.int .i64 0, .int .i64 2]) ∧ Below w.heap.size w w' := by
  have hs := okC_small hok
  have hN6 : N ≤ 6 := by omega
  have hl16 : l1.length ≤ 16 := by omega
  obtain ⟨w0, hw0⟩ : ∃ w0, (w.alloc (.cells #[.int .i64 (N : Int), .slice A1 l1.length c1, .slice A2 l2.length c2] 25)).alloc (.cells #[.int .i64 L, .int .i64 a] 44) = w0 := ⟨_, rfl⟩
  have HB := Aside0.mk (show Below w.heap.size w w0 by rw [← hw0]; exact below_alloc (below_alloc (Below.refl _ _) _) _)
  have hb0 : w0.cell? ⟨w.heap.size + 1, 0, none⟩ = some (.int .i64 L) := by
    rw [← hw0]
    have := cell_new (w.alloc (.cells #[.int .i64 (N : Int), .slice A1 l1.length c1, .slice A2 l2.length c2] 25)) #[.int .i64 L, .int .i64 a] 44 0 rfl
    rwa [World.size_alloc] at this
  have hb1 : w0.cell? ⟨w.heap.size + 1, 1, none⟩ = some (.int .i64 a) := by
    rw [← hw0]
    have := cell_new (w.alloc (.cells #[.int .i64 (N : Int), .slice A1 l1.length c1, .slice A2 l2.length c2] 25)) #[.int .i64 L, .int .i64 a] 44 1 rfl
    rwa [World.size_alloc] at this
  have HB0 := Aside0.mk hb0
  have HB1' := Aside0.mk hb1
  have HO := Aside0.mk (of_ok N l1 l2 A1 c1 A2 c2 w0 hok (Kd.C_below hr1 HB.out) hc1 (Kd.C_below hr2 HB.out) hc2)
  have HFa := Aside0.mk (fun {W : World} {g : Nat} (hC : CircAt W g N l1 l2) => failure_calls L a hC hN6 hl16)
  have HVc := Aside0.mk (fun {W : World} {g : Nat} (hC : CircAt W g N l1 l2) => vectors_calls hC hN6)
  have hfn := (failN_ok hst).1
  have hf2 := (failN_ok hst).2
  obtain ⟨f, hf⟩ : ∃ f, (2 * L + a).toNat = f := ⟨_, rfl⟩
  rw [hf] at hfn hf2
  have HFn := Aside0.mk hfn
  have d0 : decide ((f : Int) < 0) = false := decide_eq_false (by omega)
  have d1 : decide (v < 0) = true := decide_eq_true hv
  clear hst hv hfn hf hf2
  generalize 2 ^ N = P at *
  clear hr1 hc1 hr2 hc2 hok hN6 hl16 hs hb0 hb1
  go_enter Try.func42, Try.ntmps42
  rw [← hw0] at *
  go_wp2_with (first | (go_at_call 54; (with_reducible refine (HO.out).mono ?_); rintro e w1 ⟨g, rfl, hC, hb⟩; have HC := Aside0.mk hC; have y0 := pw_cell_below hb HB0.out; have y1 := pw_cell_below hb HB1'.out; have HY := Aside0.mk (And.intro y0 y1); have HB1 := Aside0.mk (HB.out.trans (hb.mono HB.out.size)); clear hC hb) | (go_at_call 73; (with_reducible refine (HFa.out HC.out).mono ?_); rintro e w2 ⟨rfl, hb⟩; rw [HFn.out]; have z0 := pw_cell_below hb HY.out.1; have z1 := pw_cell_below hb HY.out.2; have HZ := Aside0.mk (And.intro z0 z1); have HC2 := Aside0.mk (HC.out.keep hb); have HB2 := Aside0.mk (HB1.out.trans (hb.mono HB1.out.size)); clear hb))
  go_ret2
  exact ⟨rfl, by exact HB2.out⟩
theorem failed_big (N : Nat) (L a v : Int) (A1 : Option Addr) (c1 : Nat) (l1 : List S40) (A2 : Option Addr) (c2 : Nat) (l2 : List Int) (w : World) (hr1 : Kd.C k40 w A1 l1.length l1) (hc1 : l1.length ≤ c1) (hr2 : Kd.C (Kd.int .i64) w A2 l2.length l2) (hc2 : l2.length ≤ c2) (hok : okC (N : Int) l1 l2 = true) (hst : stuckOk (N + l1.length) L a) (hv : 0 ≤ v ∧ ((2 ^ N : Nat) : Int) ≤ v) :
    Calls Try.prog 42 #[.agg #[.int .i64 (N : Int), .slice A1 l1.length c1, .slice A2 l2.length c2], .agg #[.int .i64 L, .int .i64 a], .int .i64 v] w fun e w' => e = .returned (.tuple #[.int .i64 0, .int .i64 2]) ∧ Below w.heap.size w w' := by
  have hs := okC_small hok
  have hN6 : N ≤ 6 := by omega
  have hl16 : l1.length ≤ 16 := by omega
  obtain ⟨w0, hw0⟩ : ∃ w0, (w.alloc (.cells #[.int .i64 (N : Int), .slice A1 l1.length c1, .slice A2 l2.length c2] 25)).alloc (.cells #[.int .i64 L, .int .i64 a] 44) = w0 := ⟨_, rfl⟩
  have HB := Aside0.mk (show Below w.heap.size w w0 by rw [← hw0]; exact below_alloc (below_alloc (Below.refl _ _) _) _)
  have hb0 : w0.cell? ⟨w.heap.size + 1, 0, none⟩ = some (.int .i64 L) := by
    rw [← hw0]
    have := cell_new (w.alloc (.cells #[.int .i64 (N : Int), .slice A1 l1.length c1, .slice A2 l2.length c2] 25)) #[.int .i64 L, .int .i64 a] 44 0 rfl
    rwa [World.size_alloc] at this
  have hb1 : w0.cell? ⟨w.heap.size + 1, 1, none⟩ = some (.int .i64 a) := by
    rw [← hw0]
    have := cell_new (w.alloc (.cells #[.int .i64 (N : Int), .slice A1 l1.length c1, .slice A2 l2.length c2] 25)) #[.int .i64 L, .int .i64 a] 44 1 rfl
    rwa [World.size_alloc] at this
  have HB0 := Aside0.mk hb0
  have HB1' := Aside0.mk hb1
  have HO := Aside0.mk (of_ok N l1 l2 A1 c1 A2 c2 w0 hok (Kd.C_below hr1 HB.out) hc1 (Kd.C_below hr2 HB.out) hc2)
  have HFa := Aside0.mk (fun {W : World} {g : Nat} (hC : CircAt W g N l1 l2) => failure_calls L a hC hN6 hl16)
  have HVc := Aside0.mk (fun {W : World} {g : Nat} (hC : CircAt W g N l1 l2) => vectors_calls hC hN6)
  have hfn := (failN_ok hst).1
  have hf2 := (failN_ok hst).2
  obtain ⟨f, hf⟩ : ∃ f, (2 * L + a).toNat = f := ⟨_, rfl⟩
  rw [hf] at hfn hf2
  have HFn := Aside0.mk hfn
  have d0 : decide ((f : Int) < 0) = false := decide_eq_false (by omega)
  have d1 : decide (v < 0) = false := decide_eq_false (by omega)
  have d2 : decide (((2 ^ N : Nat) : Int) ≤ v) = true := decide_eq_true hv.2
  clear hst hv hfn hf hf2
  generalize 2 ^ N = P at *
  clear hr1 hc1 hr2 hc2 hok hN6 hl16 hs hb0 hb1
  go_enter Try.func42, Try.ntmps42
  rw [← hw0] at *
  go_wp2_with (first | (go_at_call 54; (with_reducible refine (HO.out).mono ?_); rintro e w1 ⟨g, rfl, hC, hb⟩; have HC := Aside0.mk hC; have y0 := pw_cell_below hb HB0.out; have y1 := pw_cell_below hb HB1'.out; have HY := Aside0.mk (And.intro y0 y1); have HB1 := Aside0.mk (HB.out.trans (hb.mono HB.out.size)); clear hC hb) | (go_at_call 73; (with_reducible refine (HFa.out HC.out).mono ?_); rintro e w2 ⟨rfl, hb⟩; rw [HFn.out]; have z0 := pw_cell_below hb HY.out.1; have z1 := pw_cell_below hb HY.out.2; have HZ := Aside0.mk (And.intro z0 z1); have HC2 := Aside0.mk (HC.out.keep hb); have HB2 := Aside0.mk (HB1.out.trans (hb.mono HB1.out.size)); clear hb) | (go_at_call 70; (with_reducible refine (HVc.out HC2.out).mono ?_); rintro e w3 ⟨rfl, ⟨nd, rfl⟩⟩))
  go_ret2
  exact ⟨rfl, by exact pw_below_drewN HB2.out _⟩
theorem failed_no (a0 L a v : Int) (A1 : Option Addr) (c1 : Nat) (l1 : List S40) (A2 : Option Addr) (c2 : Nat) (l2 : List Int) (w : World) (hr1 : Kd.C k40 w A1 l1.length l1) (hc1 : l1.length ≤ c1) (hr2 : Kd.C (Kd.int .i64) w A2 l2.length l2) (hc2 : l2.length ≤ c2) (hok : okC a0 l1 l2 = false) :
    Calls Try.prog 42 #[.agg #[.int .i64 a0, .slice A1 l1.length c1, .slice A2 l2.length c2], .agg #[.int .i64 L, .int .i64 a], .int .i64 v] w fun e w' => e = .returned (.tuple #[.int .i64 0, .int .i64 2]) ∧ Below w.heap.size w w' := by
  obtain ⟨w0, hw0⟩ : ∃ w0, (w.alloc (.cells #[.int .i64 a0, .slice A1 l1.length c1, .slice A2 l2.length c2] 25)).alloc (.cells #[.int .i64 L, .int .i64 a] 44) = w0 := ⟨_, rfl⟩
  have HB := Aside0.mk (show Below w.heap.size w w0 by rw [← hw0]; exact below_alloc (below_alloc (Below.refl _ _) _) _)
  have HO := Aside0.mk (of_no a0 l1 l2 A1 c1 A2 c2 w0 hok (Kd.C_below hr1 HB.out) hc1 (Kd.C_below hr2 HB.out) hc2)
  clear hr1 hc1 hr2 hc2 hok
  go_enter Try.func42, Try.ntmps42
  rw [← hw0] at *
  go_wp2_with (go_at_call 54; (with_reducible refine (HO.out).mono ?_); rintro e w1 ⟨rfl, hb⟩; have HB1 := Aside0.mk (HB.out.trans (hb.mono HB.out.size)); clear hb)
  go_ret2
  exact ⟨rfl, HB1.out⟩
theorem gate_Failed.calls (a0 : Int) (A1 : Option Addr) (c1 : Nat) (l1 : List S40) (A2 : Option Addr) (c2 : Nat) (l2 : List Int) (L a : Int) (v : Int) (r1 : Int) (r2 : Int) (w : World) (hr1 : Kd.C k40 w A1 l1.length l1) (hc1 : l1.length ≤ c1) (hr2 : Kd.C (Kd.int .i64) w A2 l2.length l2) (hc2 : l2.length ≤ c2) (h : gate_Failed.f a0 l1 l2 L a v = some (r1, r2)) :
    Calls Try.prog 42 #[.agg #[.int .i64 a0, .slice A1 l1.length c1, .slice A2 l2.length c2], .agg #[.int .i64 L, .int .i64 a], .int .i64 v] w fun e w' => e = .returned (.tuple #[.int .i64 r1, .int .i64 r2]) ∧ Below w.heap.size w w' := by
  unfold gate_Failed.f at h
  injection h with h
  cases hok : okC a0 l1 l2 with
  | true =>
    obtain ⟨N, rfl⟩ := Int.eq_ofNat_of_zero_le (show 0 ≤ a0 by have := okC_small hok; omega)
    by_cases hst : stuckOk (N + l1.length) L a
    · by_cases hv : vecOk (N : Int) v
      · rw [if_pos ⟨hok, by rw [Int.toNat_natCast]; exact hst, hv⟩, Int.toNat_natCast] at h
        injection h with h1 h2
        subst h1 h2
        exact failed_ok N L a v A1 c1 l1 A2 c2 l2 w hr1 hc1 hr2 hc2 hok hst hv
      · rw [if_neg (fun e => hv e.2.2)] at h
        injection h with h1 h2
        subst h1 h2
        unfold vecOk at hv
        rw [Int.toNat_natCast] at hv
        by_cases h0 : v < 0
        · exact failed_neg N L a v A1 c1 l1 A2 c2 l2 w hr1 hc1 hr2 hc2 hok hst h0
        · exact failed_big N L a v A1 c1 l1 A2 c2 l2 w hr1 hc1 hr2 hc2 hok hst ⟨by omega, by omega⟩
    · rw [if_neg (fun e => hst (by have := e.2.1; rwa [Int.toNat_natCast] at this))] at h
      injection h with h1 h2
      subst h1 h2
      exact failed_st N L a v A1 c1 l1 A2 c2 l2 w hr1 hc1 hr2 hc2 hok hst
  | false =>
    rw [if_neg (fun e => by rw [hok] at e; cases e.1)] at h
    injection h with h1 h2
    subst h1 h2
    exact failed_no a0 L a v A1 c1 l1 A2 c2 l2 w hr1 hc1 hr2 hc2 hok
theorem test_none (N : Nat) (L a : Int) (A1 : Option Addr) (c1 : Nat) (l1 : List S40) (A2 : Option Addr) (c2 : Nat) (l2 : List Int) (w : World) (hr1 : Kd.C k40 w A1 l1.length l1) (hc1 : l1.length ≤ c1) (hr2 : Kd.C (Kd.int .i64) w A2 l2.length l2) (hc2 : l2.length ≤ c2) (hok : okC (N : Int) l1 l2 = true) (hst : stuckOk (N + l1.length) L a) (hm : GT.memb (GT.shows (toC N l1 l2) (2 * L + a).toNat) = []) :
    Calls Try.prog 29 #[.agg #[.int .i64 (N : Int), .slice A1 l1.length c1, .slice A2 l2.length c2], .agg #[.int .i64 L, .int .i64 a]] w fun e w' => e = .returned (.tuple #[.int .i64 0, .int .i64 10]) ∧ Below w.heap.size w w' := by
  have hs := okC_small hok
  have hN6 : N ≤ 6 := by omega
  have hl16 : l1.length ≤ 16 := by omega
  obtain ⟨w0, hw0⟩ : ∃ w0, (w.alloc (.cells #[.int .i64 (N : Int), .slice A1 l1.length c1, .slice A2 l2.length c2] 25)).alloc (.cells #[.int .i64 L, .int .i64 a] 44) = w0 := ⟨_, rfl⟩
  have HB := Aside0.mk (show Below w.heap.size w w0 by rw [← hw0]; exact below_alloc (below_alloc (Below.refl _ _) _) _)
  have hb0 : w0.cell? ⟨w.heap.size + 1, 0, none⟩ = some (.int .i64 L) := by
    rw [← hw0]
    have := cell_new (w.alloc (.cells #[.int .i64 (N : Int), .slice A1 l1.length c1, .slice A2 l2.length c2] 25)) #[.int .i64 L, .int .i64 a] 44 0 rfl
    rwa [World.size_alloc] at this
  have hb1 : w0.cell? ⟨w.heap.size + 1, 1, none⟩ = some (.int .i64 a) := by
    rw [← hw0]
    have := cell_new (w.alloc (.cells #[.int .i64 (N : Int), .slice A1 l1.length c1, .slice A2 l2.length c2] 25)) #[.int .i64 L, .int .i64 a] 44 1 rfl
    rwa [World.size_alloc] at this
  have HB0 := Aside0.mk hb0
  have HB1' := Aside0.mk hb1
  have HO := Aside0.mk (of_ok N l1 l2 A1 c1 A2 c2 w0 hok (Kd.C_below hr1 HB.out) hc1 (Kd.C_below hr2 HB.out) hc2)
  have HFa := Aside0.mk (fun {W : World} {g : Nat} (hC : CircAt W g N l1 l2) => failure_calls L a hC hN6 hl16)
  have hfn := (failN_ok hst).1
  have hf2 := (failN_ok hst).2
  obtain ⟨f, hf⟩ : ∃ f, (2 * L + a).toNat = f := ⟨_, rfl⟩
  rw [hf] at hfn hf2 hm
  have HFn := Aside0.mk hfn
  have d0 : decide ((f : Int) < 0) = false := decide_eq_false (by omega)
  have HSh := Aside0.mk (fun {W : World} {g : Nat} (hC : CircAt W g N l1 l2) => shows_calls f (by omega) hok hC)
  have hF := members_f (GT.shows (toC N l1 l2) f) (shows_lt64 hN6 l1 l2 f) 65 (by omega)
  unfold membI at hF
  rw [hm] at hF
  generalize GT.shows (toC N l1 l2) f = S at *
  have HF := Aside0.mk hF
  clear hF hst hfn hf hf2 hm
  clear hr1 hc1 hr2 hc2 hok hN6 hl16 hs hb0 hb1
  go_enter Try.func29, Try.ntmps29
  rw [← hw0] at *
  go_wp2_with (first | (go_at_call 54; (with_reducible refine (HO.out).mono ?_); rintro e w1 ⟨g, rfl, hC, hb⟩; have HC := Aside0.mk hC; have y0 := pw_cell_below hb HB0.out; have y1 := pw_cell_below hb HB1'.out; have HY := Aside0.mk (And.intro y0 y1); have HB1 := Aside0.mk (HB.out.trans (hb.mono HB.out.size)); clear hC hb) | (go_at_call 73; (with_reducible refine (HFa.out HC.out).mono ?_); rintro e w2 ⟨rfl, hb⟩; rw [HFn.out]; have z0 := pw_cell_below hb HY.out.1; have z1 := pw_cell_below hb HY.out.2; have HZ := Aside0.mk (And.intro z0 z1); have HC2 := Aside0.mk (HC.out.keep hb); have HB2 := Aside0.mk (HB1.out.trans (hb.mono HB1.out.size)); clear hb) | (go_at_call 73; (with_reducible refine (HFa.out (HC2.out)).mono ?_); rintro e w4 ⟨rfl, hb⟩; rw [HFn.out]; have HC4 := Aside0.mk ((HC2.out).keep hb); have HB4 := Aside0.mk ((HB2.out).trans (hb.mono (HB2.out).size)); clear hb) | (go_at_call 74; (with_reducible refine (HSh.out HC4.out).mono ?_); rintro e w5 ⟨rfl, hb⟩; have HB5 := Aside0.mk (HB4.out.trans (hb.mono HB4.out.size)); clear hb) | (go_at_call 68; (with_reducible refine (gate_members.calls 65 (S : Int) _ _ HF.out).mono ?_); rintro e w6 ⟨v6, rfl, hR, hb⟩; obtain ⟨A6, c6, rfl⟩ := Kd.R_slice hR; dsimp only [List.map_nil, List.length_nil]; have HB6 := Aside0.mk (HB5.out.trans (hb.mono HB5.out.size)); clear hR hb))
  go_ret2
  exact ⟨rfl, by exact HB6.out⟩
theorem test_some (N : Nat) (L a : Int) (A1 : Option Addr) (c1 : Nat) (l1 : List S40) (A2 : Option Addr) (c2 : Nat) (l2 : List Int) (w : World) (hr1 : Kd.C k40 w A1 l1.length l1) (hc1 : l1.length ≤ c1) (hr2 : Kd.C (Kd.int .i64) w A2 l2.length l2) (hc2 : l2.length ≤ c2) (hok : okC (N : Int) l1 l2 = true) (v : Nat) (rest : List Nat) (hst : stuckOk (N + l1.length) L a) (hm : GT.memb (GT.shows (toC N l1 l2) (2 * L + a).toNat) = v :: rest) :
    Calls Try.prog 29 #[.agg #[.int .i64 (N : Int), .slice A1 l1.length c1, .slice A2 l2.length c2], .agg #[.int .i64 L, .int .i64 a]] w fun e w' => e = .returned (.tuple #[.int .i64 (v : Int), .int .i64 0]) ∧ Below w.heap.size w w' := by
  have hs := okC_small hok
  have hN6 : N ≤ 6 := by omega
  have hl16 : l1.length ≤ 16 := by omega
  obtain ⟨w0, hw0⟩ : ∃ w0, (w.alloc (.cells #[.int .i64 (N : Int), .slice A1 l1.length c1, .slice A2 l2.length c2] 25)).alloc (.cells #[.int .i64 L, .int .i64 a] 44) = w0 := ⟨_, rfl⟩
  have HB := Aside0.mk (show Below w.heap.size w w0 by rw [← hw0]; exact below_alloc (below_alloc (Below.refl _ _) _) _)
  have hb0 : w0.cell? ⟨w.heap.size + 1, 0, none⟩ = some (.int .i64 L) := by
    rw [← hw0]
    have := cell_new (w.alloc (.cells #[.int .i64 (N : Int), .slice A1 l1.length c1, .slice A2 l2.length c2] 25)) #[.int .i64 L, .int .i64 a] 44 0 rfl
    rwa [World.size_alloc] at this
  have hb1 : w0.cell? ⟨w.heap.size + 1, 1, none⟩ = some (.int .i64 a) := by
    rw [← hw0]
    have := cell_new (w.alloc (.cells #[.int .i64 (N : Int), .slice A1 l1.length c1, .slice A2 l2.length c2] 25)) #[.int .i64 L, .int .i64 a] 44 1 rfl
    rwa [World.size_alloc] at this
  have HB0 := Aside0.mk hb0
  have HB1' := Aside0.mk hb1
  have HO := Aside0.mk (of_ok N l1 l2 A1 c1 A2 c2 w0 hok (Kd.C_below hr1 HB.out) hc1 (Kd.C_below hr2 HB.out) hc2)
  have HFa := Aside0.mk (fun {W : World} {g : Nat} (hC : CircAt W g N l1 l2) => failure_calls L a hC hN6 hl16)
  have hfn := (failN_ok hst).1
  have hf2 := (failN_ok hst).2
  obtain ⟨f, hf⟩ : ∃ f, (2 * L + a).toNat = f := ⟨_, rfl⟩
  rw [hf] at hfn hf2 hm
  have HFn := Aside0.mk hfn
  have d0 : decide ((f : Int) < 0) = false := decide_eq_false (by omega)
  have HSh := Aside0.mk (fun {W : World} {g : Nat} (hC : CircAt W g N l1 l2) => shows_calls f (by omega) hok hC)
  have hF := members_f (GT.shows (toC N l1 l2) f) (shows_lt64 hN6 l1 l2 f) 65 (by omega)
  unfold membI at hF
  rw [hm] at hF
  generalize GT.shows (toC N l1 l2) f = S at *
  have HF := Aside0.mk hF
  clear hF hst hfn hf hf2 hm
  obtain ⟨ms, hms⟩ : ∃ ms : List Int, List.map (fun (j : Nat) => (j : Int)) (v :: rest) = ms := ⟨_, rfl⟩
  have hml : ms.length = rest.length + 1 := by rw [← hms]; simp
  have hm0 : rd ms 0 = (v : Int) := by rw [← hms]; rfl
  rw [hms] at HF
  obtain ⟨n, hn⟩ : ∃ n, ms.length = n := ⟨_, rfl⟩
  have HMn := Aside0.mk (And.intro hn (And.intro hm0 (show 0 < n by omega)))
  have e1 : ((n : Int) == 0) = false := beq_eq_false_iff_ne.2 (by omega)
  have e2 : (n == 0) = false := beq_eq_false_iff_ne.2 (by omega)
  have q1 := eq_true (show (0 : Int) < (n : Int) by omega)
  have q2 := eq_true (show 0 < n by omega)
  clear hms hml hm0 hn
  clear hr1 hc1 hr2 hc2 hok hN6 hl16 hs hb0 hb1
  go_enter Try.func29, Try.ntmps29
  rw [← hw0] at *
  go_wp2_with (first | (go_at_call 54; (with_reducible refine (HO.out).mono ?_); rintro e w1 ⟨g, rfl, hC, hb⟩; have HC := Aside0.mk hC; have y0 := pw_cell_below hb HB0.out; have y1 := pw_cell_below hb HB1'.out; have HY := Aside0.mk (And.intro y0 y1); have HB1 := Aside0.mk (HB.out.trans (hb.mono HB.out.size)); clear hC hb) | (go_at_call 73; (with_reducible refine (HFa.out HC.out).mono ?_); rintro e w2 ⟨rfl, hb⟩; rw [HFn.out]; have z0 := pw_cell_below hb HY.out.1; have z1 := pw_cell_below hb HY.out.2; have HZ := Aside0.mk (And.intro z0 z1); have HC2 := Aside0.mk (HC.out.keep hb); have HB2 := Aside0.mk (HB1.out.trans (hb.mono HB1.out.size)); clear hb) | (go_at_call 73; (with_reducible refine (HFa.out (HC2.out)).mono ?_); rintro e w4 ⟨rfl, hb⟩; rw [HFn.out]; have HC4 := Aside0.mk ((HC2.out).keep hb); have HB4 := Aside0.mk ((HB2.out).trans (hb.mono (HB2.out).size)); clear hb) | (go_at_call 74; (with_reducible refine (HSh.out HC4.out).mono ?_); rintro e w5 ⟨rfl, hb⟩; have HB5 := Aside0.mk (HB4.out.trans (hb.mono HB4.out.size)); clear hb) | (go_at_call 68; (with_reducible refine (gate_members.calls 65 (S : Int) _ _ HF.out).mono ?_); rintro e w6 ⟨v6, rfl, hR, hb⟩; obtain ⟨A6, c6, rfl⟩ := Kd.R_slice hR; have hr6 := (Kd.R_reads' hR).2.2; rw [HMn.out.1] at hr6 ⊢; obtain ⟨ad6, e6, hx6⟩ := Kd.at_int hr6 0 (by omega) (by have := HMn.out.2.2; omega); subst e6; rw [HMn.out.2.1] at hx6; have hx7 : w6.cell? ad6 = some (.int .i64 (v : Int)) := (by simpa [Addr.add] using hx6); clear hr6; have HB6 := Aside0.mk (HB5.out.trans (hb.mono HB5.out.size)); clear hR hb))
  go_ret2
  exact ⟨rfl, by exact HB6.out⟩
theorem test_st (N : Nat) (L a : Int) (A1 : Option Addr) (c1 : Nat) (l1 : List S40) (A2 : Option Addr) (c2 : Nat) (l2 : List Int) (w : World) (hr1 : Kd.C k40 w A1 l1.length l1) (hc1 : l1.length ≤ c1) (hr2 : Kd.C (Kd.int .i64) w A2 l2.length l2) (hc2 : l2.length ≤ c2) (hok : okC (N : Int) l1 l2 = true) (hst : ¬ stuckOk (N + l1.length) L a) :
    Calls Try.prog 29 #[.agg #[.int .i64 (N : Int), .slice A1 l1.length c1, .slice A2 l2.length c2], .agg #[.int .i64 L, .int .i64 a]] w fun e w' => e = .returned (.tuple #[.int .i64 0, .int .i64 2]) ∧ Below w.heap.size w w' := by
  have hs := okC_small hok
  have hN6 : N ≤ 6 := by omega
  have hl16 : l1.length ≤ 16 := by omega
  obtain ⟨w0, hw0⟩ : ∃ w0, (w.alloc (.cells #[.int .i64 (N : Int), .slice A1 l1.length c1, .slice A2 l2.length c2] 25)).alloc (.cells #[.int .i64 L, .int .i64 a] 44) = w0 := ⟨_, rfl⟩
  have HB := Aside0.mk (show Below w.heap.size w w0 by rw [← hw0]; exact below_alloc (below_alloc (Below.refl _ _) _) _)
  have hb0 : w0.cell? ⟨w.heap.size + 1, 0, none⟩ = some (.int .i64 L) := by
    rw [← hw0]
    have := cell_new (w.alloc (.cells #[.int .i64 (N : Int), .slice A1 l1.length c1, .slice A2 l2.length c2] 25)) #[.int .i64 L, .int .i64 a] 44 0 rfl
    rwa [World.size_alloc] at this
  have hb1 : w0.cell? ⟨w.heap.size + 1, 1, none⟩ = some (.int .i64 a) := by
    rw [← hw0]
    have := cell_new (w.alloc (.cells #[.int .i64 (N : Int), .slice A1 l1.length c1, .slice A2 l2.length c2] 25)) #[.int .i64 L, .int .i64 a] 44 1 rfl
    rwa [World.size_alloc] at this
  have HB0 := Aside0.mk hb0
  have HB1' := Aside0.mk hb1
  have HO := Aside0.mk (of_ok N l1 l2 A1 c1 A2 c2 w0 hok (Kd.C_below hr1 HB.out) hc1 (Kd.C_below hr2 HB.out) hc2)
  have HFa := Aside0.mk (fun {W : World} {g : Nat} (hC : CircAt W g N l1 l2) => failure_calls L a hC hN6 hl16)
  have HFn := Aside0.mk (failN_no hst)
  clear hst
  clear hr1 hc1 hr2 hc2 hok hN6 hl16 hs hb0 hb1
  go_enter Try.func29, Try.ntmps29
  rw [← hw0] at *
  go_wp2_with (first | (go_at_call 54; (with_reducible refine (HO.out).mono ?_); rintro e w1 ⟨g, rfl, hC, hb⟩; have HC := Aside0.mk hC; have y0 := pw_cell_below hb HB0.out; have y1 := pw_cell_below hb HB1'.out; have HY := Aside0.mk (And.intro y0 y1); have HB1 := Aside0.mk (HB.out.trans (hb.mono HB.out.size)); clear hC hb) | (go_at_call 73; (with_reducible refine (HFa.out HC.out).mono ?_); rintro e w2 ⟨rfl, hb⟩; rw [HFn.out]; have z0 := pw_cell_below hb HY.out.1; have z1 := pw_cell_below hb HY.out.2; have HZ := Aside0.mk (And.intro z0 z1); have HC2 := Aside0.mk (HC.out.keep hb); have HB2 := Aside0.mk (HB1.out.trans (hb.mono HB1.out.size)); clear hb))
  go_ret2
  exact ⟨rfl, by exact HB2.out⟩
theorem test_no (a0 L a : Int) (A1 : Option Addr) (c1 : Nat) (l1 : List S40) (A2 : Option Addr) (c2 : Nat) (l2 : List Int) (w : World) (hr1 : Kd.C k40 w A1 l1.length l1) (hc1 : l1.length ≤ c1) (hr2 : Kd.C (Kd.int .i64) w A2 l2.length l2) (hc2 : l2.length ≤ c2) (hok : okC a0 l1 l2 = false) :
    Calls Try.prog 29 #[.agg #[.int .i64 a0, .slice A1 l1.length c1, .slice A2 l2.length c2], .agg #[.int .i64 L, .int .i64 a]] w fun e w' => e = .returned (.tuple #[.int .i64 0, .int .i64 2]) ∧ Below w.heap.size w w' := by
  obtain ⟨w0, hw0⟩ : ∃ w0, (w.alloc (.cells #[.int .i64 a0, .slice A1 l1.length c1, .slice A2 l2.length c2] 25)).alloc (.cells #[.int .i64 L, .int .i64 a] 44) = w0 := ⟨_, rfl⟩
  have HB := Aside0.mk (show Below w.heap.size w w0 by rw [← hw0]; exact below_alloc (below_alloc (Below.refl _ _) _) _)
  have HO := Aside0.mk (of_no a0 l1 l2 A1 c1 A2 c2 w0 hok (Kd.C_below hr1 HB.out) hc1 (Kd.C_below hr2 HB.out) hc2)
  clear hr1 hc1 hr2 hc2 hok
  go_enter Try.func29, Try.ntmps29
  rw [← hw0] at *
  go_wp2_with (go_at_call 54; (with_reducible refine (HO.out).mono ?_); rintro e w1 ⟨rfl, hb⟩; have HB1 := Aside0.mk (HB.out.trans (hb.mono HB.out.size)); clear hb)
  go_ret2
  exact ⟨rfl, HB1.out⟩
theorem gate_Test.calls (a0 : Int) (A1 : Option Addr) (c1 : Nat) (l1 : List S40) (A2 : Option Addr) (c2 : Nat) (l2 : List Int) (L a : Int) (r1 : Int) (r2 : Int) (w : World) (hr1 : Kd.C k40 w A1 l1.length l1) (hc1 : l1.length ≤ c1) (hr2 : Kd.C (Kd.int .i64) w A2 l2.length l2) (hc2 : l2.length ≤ c2) (h : gate_Test.f a0 l1 l2 L a = some (r1, r2)) :
    Calls Try.prog 29 #[.agg #[.int .i64 a0, .slice A1 l1.length c1, .slice A2 l2.length c2], .agg #[.int .i64 L, .int .i64 a]] w fun e w' => e = .returned (.tuple #[.int .i64 r1, .int .i64 r2]) ∧ Below w.heap.size w w' := by
  unfold gate_Test.f at h
  injection h with h
  cases hok : okC a0 l1 l2 with
  | true =>
    obtain ⟨N, rfl⟩ := Int.eq_ofNat_of_zero_le (show 0 ≤ a0 by have := okC_small hok; omega)
    by_cases hst : stuckOk (N + l1.length) L a
    · rw [if_pos ⟨hok, by rw [Int.toNat_natCast]; exact hst⟩, Int.toNat_natCast] at h
      cases hm : GT.memb (GT.shows (toC N l1 l2) (2 * L + a).toNat) with
      | nil =>
        rw [hm] at h
        injection h with h1 h2
        subst h1 h2
        exact test_none N L a A1 c1 l1 A2 c2 l2 w hr1 hc1 hr2 hc2 hok hst hm
      | cons v rest =>
        rw [hm] at h
        injection h with h1 h2
        subst h1 h2
        exact test_some N L a A1 c1 l1 A2 c2 l2 w hr1 hc1 hr2 hc2 hok v rest hst hm
    · rw [if_neg (fun e => hst (by have := e.2; rwa [Int.toNat_natCast] at this))] at h
      injection h with h1 h2
      subst h1 h2
      exact test_st N L a A1 c1 l1 A2 c2 l2 w hr1 hc1 hr2 hc2 hok hst
  | false =>
    rw [if_neg (fun e => by rw [hok] at e; cases e.1)] at h
    injection h with h1 h2
    subst h1 h2
    exact test_no a0 L a A1 c1 l1 A2 c2 l2 w hr1 hc1 hr2 hc2 hok
end Go.Proofs.Ytelfalicickelaa.P
namespace Go.Proofs.Ytelfalicickelaa.P
open Go.RowKit Go.Proofs.YtelfalicickelaaW.PrintWords Go.Proofs.YtelfalicickelaaW.PrintLast Go.Proofs.YtelfalicickelaaW.PrintMore
attribute [local go_sem] max2_int max_two
set_option linter.unusedVariables false
set_option linter.unusedSimpArgs false
def neonwrightlaw07_same.l0 : Nat → List Int → List Int → Int → Option (Bool)
  | 0, _, _, _ => none
  | k + 1, x0, x1, x5 => if x5 < (x0.length : Int) then (if 0 ≤ x5 then (if x5 < (x1.length : Int) then (if (rd x0 x5) = (rd x1 x5) then (neonwrightlaw07_same.l0 k x0 x1 (wrap64 (x5 + 1))) else (some false)) else (none)) else (none)) else (some true)
def neonwrightlaw07_same.f (k : Nat) (l0 : List Int) (l1 : List Int) : Option (Bool) := if (l0.length : Int) = (l1.length : Int) then (neonwrightlaw07_same.l0 k l0 l1 0) else (some false)
set_option maxHeartbeats 8000000 in
set_option maxRecDepth 100000 in
theorem neonwrightlaw07_same.calls (k : Nat) (A0 : Option Addr) (c0 : Nat) (l0 : List Int) (A1 : Option Addr) (c1 : Nat) (l1 : List Int) (r : Bool) (w : World) (hr0 : Kd.C (Kd.int .i64) w A0 l0.length l0) (hc0 : l0.length ≤ c0) (hr1 : Kd.C (Kd.int .i64) w A1 l1.length l1) (hc1 : l1.length ≤ c1) (h : neonwrightlaw07_same.f k l0 l1 = some r) :
    Calls Try.prog 22 #[.slice A0 l0.length c0, .slice A1 l1.length c1] w fun e w' => e = .returned (.bool r) ∧ Drawn0 w w' := by
  have HR0 := Aside0.mk hr0
  have HC0 := Aside0.mk hc0
  clear hr0 hc0
  have HR1 := Aside0.mk hr1
  have HC1 := Aside0.mk hc1
  clear hr1 hc1
  have H : (if (l0.length : Int) = (l1.length : Int) then (neonwrightlaw07_same.l0 k l0 l1 0) else (some false)) = some r := h
  clear h
  by_cases c3 : (l0.length : Int) = (l1.length : Int)
  · rw [if_pos c3] at H
    have c3b0 : ((l0.length : Int) == (l1.length : Int)) = true := beq_iff_eq.mpr c3
    have c3b1 : ((l0.length : Int) != (l1.length : Int)) = false := bne_eq_false_iff_eq.mpr c3
    have c3b2 : (l0.length == l1.length) = true := by first | simpa using c3 | (simp at c3 ⊢; omega)
    clear c3
    have H' := Aside0.mk H
    clear H
    go_enter Try.func22, Try.ntmps22
    go_wp2
    repeat (go_quiet (fail); try go_wp2)
    go_loopg [5] k (fun kq v5 w' => ∃ (x5_1 : Int), v5 = .int .i64 x5_1 ∧ Aside0 (neonwrightlaw07_same.l0 kq l0 l1 x5_1 = some r) ∧ Aside0 (kq ≤ k) ∧ Drawn0 w w')
    case atStart => exact ⟨(0), (by first | rfl | (simp; done) | (simp [*]; done)), H', ⟨Nat.le_refl _⟩, by repeat (first | exact Drawn0.refl _ | apply Drawn0.step)⟩
    case round =>
      clear H'
      try clear c1
      try clear c2
      try clear p2
      try clear c3
      try clear c3b0
      try clear c3b1
      try clear c3b2
      obtain ⟨x5_1, rfl, HA, HK1, ⟨m1, rfl⟩⟩ := hrel
      cases gk with
      | zero => exact absurd HA.out (by simp [neonwrightlaw07_same.l0])
      | succ k1 =>
        have H := HA.out
        clear HA
        simp only [neonwrightlaw07_same.l0] at H
        by_cases c4 : x5_1 < (l0.length : Int)
        · rw [if_pos c4] at H
          have c4b0 : decide (x5_1 < (l0.length : Int)) = true := decide_eq_true c4
          clear c4
          by_cases c5 : 0 ≤ x5_1
          · rw [if_pos c5] at H
            have c5b0 : decide (0 ≤ x5_1) = true := decide_eq_true c5
            clear c5
            by_cases c6 : x5_1 < (l1.length : Int)
            · rw [if_pos c6] at H
              have c6b0 : decide (x5_1 < (l1.length : Int)) = true := decide_eq_true c6
              clear c6
              by_cases c7 : (rd l0 x5_1) = (rd l1 x5_1)
              · rw [if_pos c7] at H
                have c7b0 : ((rd l0 x5_1) == (rd l1 x5_1)) = true := beq_iff_eq.mpr c7
                have c7b1 : ((rd l0 x5_1) != (rd l1 x5_1)) = false := bne_eq_false_iff_eq.mpr c7
                clear c7
                have H' := Aside0.mk H
                clear H
                have p187 : 0 ≤ (x5_1 : Int) := of_decide_eq_true (by first | (with_reducible assumption) | assumption)
                have q187 : x5_1 < (l0.length : Int) := of_decide_eq_true (by first | (with_reducible assumption) | assumption)
                obtain ⟨ad187, e187, hx187_0⟩ := Kd.at_int HR0.out x5_1 p187 q187
                cases e187
                replace p187 := eq_true p187
                replace q187 := eq_true q187
                have p188 : 0 ≤ (x5_1 : Int) := of_decide_eq_true (by first | (with_reducible assumption) | assumption)
                have q188 : x5_1 < (l1.length : Int) := of_decide_eq_true (by first | (with_reducible assumption) | assumption)
                obtain ⟨ad188, e188, hx188_0⟩ := Kd.at_int HR1.out x5_1 p188 q188
                cases e188
                replace p188 := eq_true p188
                replace q188 := eq_true q188
                go_wp2
                repeat (go_quiet (fail); try go_wp2)
                go_roundg k1
                case measure => have := HK1.out; omega
                case rel => exact ⟨(wrap64 (x5_1 + 1)), (by first | rfl | (simp; done) | (simp [*]; done)), H', ⟨by have := HK1.out; omega⟩, by repeat (first | exact Drawn0.refl _ | apply Drawn0.step)⟩
              · rw [if_neg c7] at H
                have c7b0 : ((rd l0 x5_1) == (rd l1 x5_1)) = false := beq_eq_false_iff_ne.mpr c7
                have c7b1 : ((rd l0 x5_1) != (rd l1 x5_1)) = true := bne_iff_ne.mpr c7
                obtain rfl := Option.some.inj H
                have p187 : 0 ≤ (x5_1 : Int) := of_decide_eq_true (by first | (with_reducible assumption) | assumption)
                have q187 : x5_1 < (l0.length : Int) := of_decide_eq_true (by first | (with_reducible assumption) | assumption)
                obtain ⟨ad187, e187, hx187_0⟩ := Kd.at_int HR0.out x5_1 p187 q187
                cases e187
                replace p187 := eq_true p187
                replace q187 := eq_true q187
                have p188 : 0 ≤ (x5_1 : Int) := of_decide_eq_true (by first | (with_reducible assumption) | assumption)
                have q188 : x5_1 < (l1.length : Int) := of_decide_eq_true (by first | (with_reducible assumption) | assumption)
                obtain ⟨ad188, e188, hx188_0⟩ := Kd.at_int HR1.out x5_1 p188 q188
                cases e188
                replace p188 := eq_true p188
                replace q188 := eq_true q188
                go_wp2
                repeat (go_quiet (fail); try go_wp2)
                go_ret
                exact ⟨by first | rfl | (simp; done) | (simp [*]; done), by repeat (first | exact Drawn0.refl _ | apply Drawn0.step)⟩
            · rw [if_neg c6] at H
              exact absurd H (by simp)
          · rw [if_neg c5] at H
            exact absurd H (by simp)
        · rw [if_neg c4] at H
          have c4b0 : decide (x5_1 < (l0.length : Int)) = false := decide_eq_false c4
          clear c4
          obtain rfl := Option.some.inj H
          go_wp2
          repeat (go_quiet (fail); try go_wp2)
          go_ret
          exact ⟨by first | rfl | (simp; done) | (simp [*]; done), by repeat (first | exact Drawn0.refl _ | apply Drawn0.step)⟩
  · rw [if_neg c3] at H
    have c3b0 : ((l0.length : Int) == (l1.length : Int)) = false := beq_eq_false_iff_ne.mpr c3
    have c3b1 : ((l0.length : Int) != (l1.length : Int)) = true := bne_iff_ne.mpr c3
    have c3b2 : (l0.length == l1.length) = false := by first | simpa using c3 | (simp at c3 ⊢; omega)
    obtain rfl := Option.some.inj H
    go_enter Try.func22, Try.ntmps22
    go_wp2
    repeat (go_quiet (fail); try go_wp2)
    go_ret
    exact ⟨by first | rfl | (simp; done) | (simp [*]; done), by repeat (first | exact Drawn0.refl _ | apply Drawn0.step)⟩
end Go.Proofs.Ytelfalicickelaa.P
set_option linter.unusedSimpArgs false
set_option linter.unusedVariables false
namespace Go.Proofs.Ytelfalicickelaa.P
open Go.Lib Go.RowKit Go.Proofs.YtelfalicickelaaW.PrintWords Go.Proofs.YtelfalicickelaaW.PrintLast Go.Proofs.YtelfalicickelaaW.PrintMore Go.Proofs.Ytelfalicickelaa.Kit
def andG : List S40 := [⟨0, 0, 1⟩]
theorem few_and : gate_Fewest.f 2 andG [2] = some ([1, 2, 3], 0) := by decide +kernel
theorem apart_and : gate_Apart.f 2 andG [2] = some ([0, 1, 3], 0) := by decide +kernel
theorem alike_and : gate_Alike.f 2 andG [2] = some ([[0, 2, 4], [1], [3], [5]], 0) := by decide +kernel
theorem test_and : gate_Test.f 2 andG [2] 2 0 = some (3, 0) := by decide +kernel
theorem same_and1 : neonwrightlaw07_same.f 10 [1, 2, 3] [1, 2, 3] = some true := by decide +kernel
theorem same_and2 : neonwrightlaw07_same.f 10 [0, 1, 3] [0, 1, 3] = some true := by decide +kernel
theorem same_and3 : neonwrightlaw07_same.f 10 [0, 2, 4] [0, 2, 4] = some true := by decide +kernel
set_option maxHeartbeats 8000000
set_option maxRecDepth 100000
theorem and_calls (w : World) :
    Calls Try.prog 52 #[] w fun e w' => ∃ A1 A2, e = .returned (.agg #[.int .i64 2, .slice A1 1 1, .slice A2 1 1]) ∧ Kd.C k40 w' A1 1 andG ∧ Kd.C (Kd.int .i64) w' A2 1 [2] ∧ Below w.heap.size w w' := by
  go_enter Try.func52, Try.ntmps52
  go_wp2
  refine bodyPost_ret (v := .agg #[.int .i64 2, .slice (some ⟨w.heap.size + 1, 0, none⟩) 1 1, .slice (some ⟨w.heap.size + 1 + 1, 0, none⟩) 1 1]) ?_ rfl ?_
  · simp only [results, show Try.f52.results = #[ResultVar.cell 0 25] from by kernel_rfl]
    go_simp
  have hs1 : ∀ o, (w.alloc o).heap.size = w.heap.size + 1 := fun o => World.size_alloc ..
  have hs2 : ∀ o o', ((w.alloc o).alloc o').heap.size = w.heap.size + 1 + 1 := fun o o' => by rw [World.size_alloc, World.size_alloc]
  refine ⟨_, _, rfl, ⟨rfl, by decide, fun _ => ⟨_, rfl, fun j p hp => ?_⟩⟩, ⟨rfl, by decide, fun _ => ⟨_, rfl, fun j p hp => ?_⟩⟩, ?_⟩
  · have hj : j = 0 := by
      cases j with
      | zero => rfl
      | succ j => simp [andG] at hp
    subst hj
    injection hp with hp
    subst hp
    refine ⟨[.int .i64 0, .int .i64 0, .int .i64 1], rfl, k40_mk _ _, fun i u hu => ?_⟩
    have hk : ∀ o1 o3, (((w.alloc o1).alloc (Obj.cells #[Value.int IntKind.i64 0, Value.int IntKind.i64 0, Value.int IntKind.i64 1] 40)).alloc o3).cell? ⟨w.heap.size + 1, i, none⟩ = some u := fun o1 o3 => by
      refine pw_cell_below (below_alloc (Below.refl _ _) _) ?_
      have hh := cell_new (w.alloc o1) #[Value.int IntKind.i64 0, Value.int IntKind.i64 0, Value.int IntKind.i64 1] 40 i (v := u) (by simpa using hu)
      rw [hs1] at hh
      exact hh
    have := hk (Obj.cells #[Value.int IntKind.i64 2, Value.slice (some { block := w.heap.size + 1, off := 0 }) 1 1, Value.slice (some { block := w.heap.size + 1 + 1, off := 0 }) 1 1] 25) (Obj.cells #[Value.int IntKind.i64 2] 3)
    have ha : (⟨w.heap.size + 1, 0, none⟩ : Addr).add (0 * k40.sz + i) = ⟨w.heap.size + 1, i, none⟩ := by simp [Addr.add]; omega
    rw [ha]
    exact this
  · have hj : j = 0 := by
      cases j with
      | zero => rfl
      | succ j => simp at hp
    subst hj
    injection hp with hp
    subst hp
    refine ⟨[.int .i64 2], rfl, rfl, fun i u hu => ?_⟩
    have hi : i = 0 := by
      cases i with
      | zero => rfl
      | succ i => simp at hu
    subst hi
    injection hu with hu
    subst hu
    have ha : (⟨w.heap.size + 1 + 1, 0, none⟩ : Addr).add (0 * (Kd.int .i64).sz + 0) = ⟨w.heap.size + 1 + 1, 0, none⟩ := by simp [Addr.add]
    rw [ha]
    have := cell_new ((w.alloc (Obj.cells #[Value.int IntKind.i64 2, Value.slice (some { block := w.heap.size + 1, off := 0 }) 1 1, Value.slice (some { block := w.heap.size + 1 + 1, off := 0 }) 1 1] 25)).alloc (Obj.cells #[Value.int IntKind.i64 0, Value.int IntKind.i64 0, Value.int IntKind.i64 1] 40)) #[Value.int IntKind.i64 2] 3 0 rfl
    rw [hs2] at this
    exact this
  · exact below_alloc (below_alloc (below_alloc (Below.refl _ _) _) _) _
theorem lit3 (W : World) (a b c : Int) : Kd.C (Kd.int .i64) (W.alloc (.cells #[.int .i64 a, .int .i64 b, .int .i64 c] 3)) (some ⟨W.heap.size, 0, none⟩) 3 [a, b, c] := by
  refine Kd.C_of_reads (d := (0 : Int)) (h1 := fun _ => rfl) ⟨rfl, by decide, fun _ => ⟨_, rfl, fun j hj => ?_⟩⟩
  rw [add_plain]
  have h3 : j = 0 ∨ j = 1 ∨ j = 2 := by omega
  rcases h3 with rfl | rfl | rfl
  · exact cell_new W _ _ 0 rfl
  · exact cell_new W _ _ 1 rfl
  · exact cell_new W _ _ 2 rfl
theorem few_c (A1 A2 : Option Addr) (w : World) (hr1 : Kd.C k40 w A1 1 andG) (hr2 : Kd.C (Kd.int .i64) w A2 1 [2]) : Calls Try.prog 20 #[.agg #[.int .i64 2, .slice A1 1 1, .slice A2 1 1]] w fun e w' => ∃ v0_ : Value, e = .returned (.tuple #[v0_, .int .i64 0]) ∧ Kd.R (Kd.int .i64) 3 w' w.heap.size (fun _ => True) v0_ [1, 2, 3] ∧ Below w.heap.size w w' := gate_Fewest.calls 2 A1 1 andG A2 1 [2] _ _ w hr1 (by decide) hr2 (by decide) few_and
theorem apart_c (A1 A2 : Option Addr) (w : World) (hr1 : Kd.C k40 w A1 1 andG) (hr2 : Kd.C (Kd.int .i64) w A2 1 [2]) : Calls Try.prog 23 #[.agg #[.int .i64 2, .slice A1 1 1, .slice A2 1 1]] w fun e w' => ∃ v0_ : Value, e = .returned (.tuple #[v0_, .int .i64 0]) ∧ Kd.R (Kd.int .i64) 3 w' w.heap.size (fun _ => True) v0_ [0, 1, 3] ∧ Below w.heap.size w w' := gate_Apart.calls 2 A1 1 andG A2 1 [2] _ _ w hr1 (by decide) hr2 (by decide) apart_and
theorem alike_c (A1 A2 : Option Addr) (w : World) (hr1 : Kd.C k40 w A1 1 andG) (hr2 : Kd.C (Kd.int .i64) w A2 1 [2]) : Calls Try.prog 18 #[.agg #[.int .i64 2, .slice A1 1 1, .slice A2 1 1]] w fun e w' => ∃ v0_ : Value, e = .returned (.tuple #[v0_, .int .i64 0]) ∧ Kd.S (Kd.slice 3 (Kd.int .i64)) 23 w' w.heap.size (fun _ => True) v0_ [[0, 2, 4], [1], [3], [5]] ∧ Below w.heap.size w w' := gate_Alike.calls 2 A1 1 andG A2 1 [2] _ _ w hr1 (by decide) hr2 (by decide) alike_and
theorem test_c (A1 A2 : Option Addr) (w : World) (hr1 : Kd.C k40 w A1 1 andG) (hr2 : Kd.C (Kd.int .i64) w A2 1 [2]) : Calls Try.prog 29 #[.agg #[.int .i64 2, .slice A1 1 1, .slice A2 1 1], .agg #[.int .i64 2, .int .i64 0]] w fun e w' => e = .returned (.tuple #[.int .i64 3, .int .i64 0]) ∧ Below w.heap.size w w' := gate_Test.calls 2 A1 1 andG A2 1 [2] 2 0 _ _ w hr1 (by decide) hr2 (by decide) test_and
theorem same_c (A0 A1 : Option Addr) (c0 c1 : Nat) (a b c : Int) (w : World) (hr0 : Kd.C (Kd.int .i64) w A0 3 [a, b, c]) (hc0 : 3 ≤ c0) (hr1 : Kd.C (Kd.int .i64) w A1 3 [a, b, c]) (hc1 : 3 ≤ c1) (h : neonwrightlaw07_same.f 10 [a, b, c] [a, b, c] = some true) : Calls Try.prog 22 #[.slice A0 3 c0, .slice A1 3 c1] w fun e w' => e = .returned (.bool true) ∧ Drawn0 w w' := neonwrightlaw07_same.calls 10 A0 c0 [a, b, c] A1 c1 [a, b, c] true w hr0 hc0 hr1 hc1 h
def neonwrightlaw07_alive.f : Option Bool := some true
theorem alive_true (w : World) : Calls Try.prog 16 #[] w fun e w' => e = .returned (.bool true) ∧ Below w.heap.size w w' := by
  have HB := Aside0.mk (Below.refl w.heap.size w)
  go_enter Try.func16, Try.ntmps16
  go_wp2_with (first | (go_at_call 52; (with_reducible refine (and_calls _).mono ?_); rintro e w7 ⟨A1, A2, rfl, hr1, hr2, hb⟩; have HK := Aside0.mk (Kd.C_below HK.out hb); have HP := Aside0.mk (Kd.C_below HP.out hb); have HF := Aside0.mk (Kd.C_below HF.out hb); have HR1 := Aside0.mk hr1; have HR2 := Aside0.mk hr2; have HB := Aside0.mk (HB.out.trans (hb.mono HB.out.size)); clear hr1 hr2 hb) | (go_at_call 52; (with_reducible refine (and_calls _).mono ?_); rintro e w5 ⟨A1, A2, rfl, hr1, hr2, hb⟩; have HP := Aside0.mk (Kd.C_below HP.out hb); have HF := Aside0.mk (Kd.C_below HF.out hb); have HR1 := Aside0.mk hr1; have HR2 := Aside0.mk hr2; have HB := Aside0.mk (HB.out.trans (hb.mono HB.out.size)); clear hr1 hr2 hb) | (go_at_call 52; (with_reducible refine (and_calls _).mono ?_); rintro e w3 ⟨A1, A2, rfl, hr1, hr2, hb⟩; have HF := Aside0.mk (Kd.C_below HF.out hb); have HR1 := Aside0.mk hr1; have HR2 := Aside0.mk hr2; have HB := Aside0.mk (HB.out.trans (hb.mono HB.out.size)); clear hr1 hr2 hb) | (go_at_call 52; (with_reducible refine (and_calls _).mono ?_); rintro e w1 ⟨A1, A2, rfl, hr1, hr2, hb⟩; have HR1 := Aside0.mk hr1; have HR2 := Aside0.mk hr2; have HB := Aside0.mk (HB.out.trans (hb.mono HB.out.size)); clear hr1 hr2 hb) | (go_at_call 20; (with_reducible refine (few_c A1 A2 _ HR1.out HR2.out).mono ?_); rintro e w2 ⟨v2, rfl, hR, hb⟩; obtain ⟨Af, cf, rfl⟩ := Kd.R_slice hR; have HF := Aside0.mk (show Kd.C (Kd.int .i64) w2 Af 3 [1, 2, 3] from (Kd.R_reads' hR).2.2); have HFc := Aside0.mk (show 3 ≤ cf from (Kd.R_reads' hR).2.1); have HB := Aside0.mk (HB.out.trans (hb.mono HB.out.size)); clear hR hb) | (go_at_call 23; (with_reducible refine (apart_c A1 A2 _ HR1.out HR2.out).mono ?_); rintro e w4 ⟨v4, rfl, hR, hb⟩; obtain ⟨Ap, cp, rfl⟩ := Kd.R_slice hR; have HF := Aside0.mk (Kd.C_below HF.out hb); have HP := Aside0.mk (show Kd.C (Kd.int .i64) w4 Ap 3 [0, 1, 3] from (Kd.R_reads' hR).2.2); have HPc := Aside0.mk (show 3 ≤ cp from (Kd.R_reads' hR).2.1); have HB := Aside0.mk (HB.out.trans (hb.mono HB.out.size)); clear hR hb) | (go_at_call 18; (with_reducible refine (alike_c A1 A2 _ HR1.out HR2.out).mono ?_); rintro e w6 ⟨v6, rfl, hR, hb⟩; obtain ⟨Ak, ck, rfl⟩ := Kd.S_slice hR; have HP := Aside0.mk (Kd.C_below HP.out hb); have HF := Aside0.mk (Kd.C_below HF.out hb); have HK := Aside0.mk (Kd.S_reads' hR).2.2; have HB := Aside0.mk (HB.out.trans (hb.mono HB.out.size)); clear hR hb) | (go_at_call 29; (with_reducible refine (test_c A1 A2 _ HR1.out HR2.out).mono ?_); rintro e w8 ⟨rfl, hb⟩; have HK := Aside0.mk (Kd.C_below HK.out hb); have HP := Aside0.mk (Kd.C_below HP.out hb); have HF := Aside0.mk (Kd.C_below HF.out hb); have HB := Aside0.mk (HB.out.trans (hb.mono HB.out.size)); obtain ⟨adk, A0k, c0k, ek, hx, hle, hro⟩ := at_rows HK.out 0 (by decide); subst ek; have HRo := Aside0.mk (show Kd.C (Kd.int .i64) w8 A0k 3 [0, 2, 4] from hro); have HLe := Aside0.mk (show 3 ≤ c0k from hle); have HX := Aside0.mk (show w8.cell? adk = some (.slice A0k 3 c0k) from (by have h_ := hx; simpa [Addr.add] using h_)); clear hb hro hle hx) | (go_at_call 22; (with_reducible refine (same_c A0k _ c0k 3 0 2 4 _ (Kd.C_alloc HRo10.out _) HLe.out (lit3 _ 0 2 4) (by decide) same_and3).mono ?_); rintro e w11 ⟨rfl, hd⟩; have hb : Below w10.heap.size w10 w11 := (by obtain ⟨n_, rfl⟩ := hd; exact pw_below_drewN (below_alloc (Below.refl _ _) _) n_); have HB11 := Aside0.mk (HB10.out.trans (hb.mono HB10.out.size)); clear hb hd) | (go_at_call 22; (with_reducible refine (same_c Ap _ cp 3 0 1 3 _ (Kd.C_alloc HP9.out _) HPc.out (lit3 _ 0 1 3) (by decide) same_and2).mono ?_); rintro e w10 ⟨rfl, hd⟩; have hb : Below w9.heap.size w9 w10 := (by obtain ⟨n_, rfl⟩ := hd; exact pw_below_drewN (below_alloc (Below.refl _ _) _) n_); have HRo10 := Aside0.mk (Kd.C_below HRo9.out hb); have hx10 := pw_cell_below hb HX9.out; have HB10 := Aside0.mk (HB9.out.trans (hb.mono HB9.out.size)); clear hb hd) | (go_at_call 22; (with_reducible refine (same_c Af _ cf 3 1 2 3 _ (Kd.C_alloc HF.out _) HFc.out (lit3 _ 1 2 3) (by decide) same_and1).mono ?_); rintro e w9 ⟨rfl, hd⟩; have hb : Below w8.heap.size w8 w9 := (by obtain ⟨n_, rfl⟩ := hd; exact pw_below_drewN (below_alloc (Below.refl _ _) _) n_); have HP9 := Aside0.mk (Kd.C_below HP.out hb); have HRo9 := Aside0.mk (Kd.C_below HRo.out hb); have HX9 := Aside0.mk (pw_cell_below hb HX.out); have HB9 := Aside0.mk (HB.out.trans (hb.mono HB.out.size)); clear hb hd))
  go_ret
  exact ⟨rfl, HB11.out⟩
theorem neonwrightlaw07_alive.calls (r : Bool) (w : World) (h : neonwrightlaw07_alive.f = some r) : Calls Try.prog 16 #[] w fun e w' => e = .returned (.bool r) ∧ Below w.heap.size w w' := by
  cases h
  exact alive_true w
end Go.Proofs.Ytelfalicickelaa.P
