/- Texts of this claim, merged by a program (shake.py): what the last theorems reach of QAlike, QShown, QReply. -/
import Derived.Test.YtelfalicickelaaKB1
import Derived.Test.YtelfalicickelaaKB6
import Derived.Test.YtelfalicickelaaKB2
import Derived.Test.YtelfalicickelaaKB3
namespace Go.Proofs.Ytelfalicickelaa.P
open Go.RowKit Go.Proofs.YtelfalicickelaaW.PrintWords Go.Proofs.YtelfalicickelaaW.PrintLast Go.Proofs.YtelfalicickelaaW.PrintMore
attribute [local go_sem] max2_int max_two
set_option linter.unusedVariables false
set_option linter.unusedSimpArgs false
def rd_L1 (xs : List (List Int)) (i : Int) : (List Int) := xs.getD i.toNat ([] : List Int)
theorem at_L1 {w : World} {A : Option Addr} {n : Nat} {xs : List (List Int)} (h : Kd.C (Kd.slice 3 (Kd.int .i64)) w A n xs) (i : Int) (h0 : 0 ≤ i) (h1 : i < n) : ∃ ad A0 c0, A = some ad ∧ w.cell? (ad.add i.toNat) = some (.slice A0 (rd_L1 xs i).length c0) ∧ (rd_L1 xs i).length ≤ c0 ∧ (Kd.int .i64).C w A0 (rd_L1 xs i).length (rd_L1 xs i) := by
  obtain ⟨ad, c, e, _, hK, hc0⟩ := Kd.C_get h ([] : List Int) i h0 h1
  have hc : ∀ j u, c[j]? = some u → w.cell? (ad.add (i.toNat * 1 + j)) = some u := hc0
  obtain ⟨A0, c0, rfl, l0, g0⟩ := hK
  exact ⟨ad, A0, c0, e, by have hq := hc 0 _ rfl; rwa [Nat.mul_one, Nat.add_zero] at hq, l0, g0⟩
def idxOk (gs : List (List Int)) (x : Int) : Bool := decide (0 ≤ x ∧ x ≤ 100 ∧ gs.length ≤ 100) && gs.all fun l => match l with | [] => false | a :: _ => decide (0 ≤ a ∧ a ≤ 100)
def idxO (cc : GT.C) (gs : List (List Int)) (x : Int) : Option Int := if idxOk gs x = true then some (idxF (alkP cc x.toNat) gs 0) else none
theorem idx_arm {W : World} {g N : Nat} {ls : List S40} {os : List Int} {Bx Bf c : Nat} {A : Option Addr} {gs : List (List Int)} {x t : Int} (hok : okC (N : Int) ls os = true) (hC : CircAt W g N ls os) (hcx : W.cell? ⟨Bx, 0, none⟩ = some (.pointer (some ⟨g, 0, none⟩))) (hcf : W.cell? ⟨Bf, 0, none⟩ = some (.int .i64 x)) (hr : Kd.C (Kd.slice 3 (Kd.int .i64)) W A gs.length gs) (hi : idxO (toC N ls os) gs x = some t) :
    Calls Try.prog 56 #[.slice A gs.length c, .func (.func 57) #[] #[.pointer (some ⟨Bx, 0, none⟩), .pointer (some ⟨Bf, 0, none⟩)]] W fun e w' => e = .returned (.int .i64 t) ∧ Below W.heap.size W w' := by
  unfold idxO at hi
  by_cases h : idxOk gs x = true
  · rw [if_pos h] at hi
    injection hi with hi
    subst hi
    unfold idxOk at h
    rw [Bool.and_eq_true, decide_eq_true_iff] at h
    obtain ⟨⟨h0, h1, h2⟩, h3⟩ := h
    obtain ⟨f, rfl⟩ := Int.eq_ofNat_of_zero_le h0
    rw [Int.toNat_natCast]
    refine idx_calls f Bx Bf c A gs (by omega) (fun l hl => ?_) h2 hok hC hcx hcf hr
    have h4 := List.all_eq_true.1 h3 l hl
    cases l with
    | nil => simp at h4
    | cons a t =>
      have h5 : 0 ≤ a ∧ a ≤ 100 := by simpa using h4
      obtain ⟨a', rfl⟩ := Int.eq_ofNat_of_zero_le h5.1
      exact ⟨a', t, by omega, rfl⟩
  · rw [if_neg h] at hi; cases hi
def gate_AlikeT.l0 (cc : GT.C) : Nat → List (List Int) → Int → Int → Option ((List (List Int)) × Int)
  | 0, _, _, _ => none
  | k + 1, x5, x13, x14 => if x14 < x13 then ((idxO cc x5 x14).bind fun t101 => (if t101 < 0 then (if x5.length < 5864062014805 then ((some (x5 ++ [[]] : List (List Int))).bind fun y102 => (if 0 ≤ (wrap64 ((y102.length : Int) - 1)) then (if (wrap64 ((y102.length : Int) - 1)) < (y102.length : Int) then (if (rd_L1 y102 (wrap64 ((y102.length : Int) - 1))).length < 17592186044416 then (gate_AlikeT.l0 cc k (y102.set ((wrap64 ((y102.length : Int) - 1)) : Int).toNat ((rd_L1 y102 (wrap64 ((y102.length : Int) - 1))) ++ [x14])) x13 (wrap64 (x14 + 1))) else (none)) else (none)) else (none))) else (none)) else (if 0 ≤ t101 then (if t101 < (x5.length : Int) then (if (rd_L1 x5 t101).length < 17592186044416 then (gate_AlikeT.l0 cc k (x5.set (t101 : Int).toNat ((rd_L1 x5 t101) ++ [x14])) x13 (wrap64 (x14 + 1))) else (none)) else (none)) else (none)))) else (some (x5, 0))
def gate_AlikeT.f (cc : GT.C) (k : Nat) (a0 : Int) : Option ((List (List Int)) × Int) := gate_AlikeT.l0 cc k ([] : List (List Int)) a0 0
def gate_AlikeT.T12 : Bool × List (List Nat × List Nat) := (true, [([], []), ([], []), ([], []), ([], []), ([2, 3], [2, 3]), ([4], [4]), ([], []), ([6], [6]), ([5, 7], [5, 7]), ([0, 1, 0, 1, 2, 3, 4, 5, 6, 7, 8], [0, 1]), ([9, 8, 8, 0, 1, 2, 3, 4, 5, 6, 7, 8], [8, 9])])
def gate_AlikeT.B12 : List Nat := [0, 0, 0, 0, 12, 28, 0, 64, 252, 511, 1023]
theorem gate_AlikeT.tab12 : rtab .any (opsOf Try.f18 12) = gate_AlikeT.T12 := by kernel_rfl
theorem gate_AlikeT.bits12 : waitsOk gate_AlikeT.T12.2 gate_AlikeT.B12 = true := by kernel_rfl
set_option maxHeartbeats 8000000 in
set_option maxRecDepth 100000 in
theorem alike_ok (k : Nat) (N : Nat) (A8 : Option Addr) (c8 : Nat) (l8 : List S40) (A9 : Option Addr) (c9 : Nat) (l9 : List Int) (r1 : List (List Int)) (r2 : Int) (w0 : World) (hr8 : Kd.C k40 w0 A8 l8.length l8) (hc8 : l8.length ≤ c8) (hr9 : Kd.C (Kd.int .i64) w0 A9 l9.length l9) (hc9 : l9.length ≤ c9) (hok : okC (N : Int) l8 l9 = true) (h : gate_AlikeT.f (toC N l8 l9) k ((2 * (N + l8.length) : Nat) : Int) = some (r1, r2)) :
    Calls Try.prog 18 #[.agg #[.int .i64 (N : Int), .slice A8 l8.length c8, .slice A9 l9.length c9]] w0 fun e w' => ∃ v0_ : Value, e = .returned (.tuple #[v0_, .int .i64 r2]) ∧ Kd.S (Kd.slice 3 (Kd.int .i64)) 23 w' w0.heap.size (fun _ => True) v0_ r1 ∧ Below w0.heap.size w0 w' := by
  have hs := okC_small hok
  have hN6 : N ≤ 6 := by omega
  have hl16 : l8.length ≤ 16 := by omega
  have HBI0 := Aside0.mk (Below.refl w0.heap.size w0)
  have HOf := Aside0.mk (fun W (hb : Below w0.heap.size w0 W) => of_ok N l8 l9 A8 c8 A9 c9 W hok (Kd.C_below hr8 hb) hc8 (Kd.C_below hr9 hb) hc9)
  have HFl := Aside0.mk (fun {W : World} {g : Nat} (hC : CircAt W g N l8 l9) => failures_calls hC hN6 hl16)
  have HIx := Aside0.mk (fun {W : World} {g Bx Bf c : Nat} {A : Option Addr} {gs : List (List Int)} {x t : Int} (hC : CircAt W g N l8 l9) (hcx : W.cell? ⟨Bx, 0, none⟩ = some (.pointer (some ⟨g, 0, none⟩))) (hcf : W.cell? ⟨Bf, 0, none⟩ = some (.int .i64 x)) (hr : Kd.C (Kd.slice 3 (Kd.int .i64)) W A gs.length gs) (hi : idxO (toC N l8 l9) gs x = some t) => idx_arm (c := c) hok hC hcx hcf hr hi)
  clear hok hr8 hc8 hr9 hc9 hs hN6 hl16
  obtain ⟨a0, ha0⟩ : ∃ a0 : Int, ((2 * (N + l8.length) : Nat) : Int) = a0 := ⟨_, rfl⟩
  simp only [ha0] at HFl
  rw [ha0] at h
  clear ha0
  generalize toC N l8 l9 = cc at *
  have H : (gate_AlikeT.l0 cc k ([] : List (List Int)) a0 0) = some (r1, r2) := h
  clear h
  have H' := Aside0.mk H
  clear H
  go_enter Try.func18, Try.ntmps18
  go_wp2_with (first | (go_at_call 54; (with_reducible refine (HOf.out _ (below_alloc HBI0.out _)).mono ?_); rintro e wO ⟨g, rfl, hC, hb⟩; have HCO := Aside0.mk hC; have HBO := Aside0.mk (below_step (below_alloc HBI0.out _) hb); have HXO := Aside0.mk (cell_new wO #[.pointer (some ⟨g, 0, none⟩)] 67 0 rfl); clear hC hb) | (go_at_call 55; (with_reducible refine (HFl.out (HCO.out.keep (below_alloc (Below.refl _ _) _))).mono ?_); rintro e w ⟨rfl, hdn⟩; have hbw : Below (wO.alloc (.cells #[.pointer (some ⟨g, 0, none⟩)] 67)).heap.size (wO.alloc (.cells #[.pointer (some ⟨g, 0, none⟩)] 67)) w := (by obtain ⟨n_, rfl⟩ := hdn; exact pw_below_drewN (Below.refl _ _) n_); have HX := Aside0.mk (pw_cell_below hbw HXO.out); have HC := Aside0.mk ((HCO.out.keep (below_alloc (Below.refl _ _) _)).keep hbw); have HBW := Aside0.mk (below_step (below_alloc HBO.out _) hbw); have HB := Aside0.mk (Below.refl w.heap.size w); clear hbw hdn))
  go_loopg [5, 14] k (fun kq v5 v14 w' => ∃ (x5_1 : List (List Int)) (x14_1 : Int), v14 = .int .i64 x14_1 ∧ Aside0 (gate_AlikeT.l0 cc kq x5_1 a0 x14_1 = some (r1, r2)) ∧ Aside0 (kq ≤ k) ∧ Aside0 (Kd.S (Kd.slice 3 (Kd.int .i64)) 23 w' w.heap.size (fun _ => True) v5 x5_1) ∧ Aside0 (Below w.heap.size w w'))
  case atStart => exact ⟨(([] : List (List Int))), (0), (by first | rfl | (simp; done) | (simp [*]; done)), H', ⟨Nat.le_refl _⟩, ⟨by first | exact Kd.S_nil _ _ _ _ _ | exact Kd.N_nil _ _ _ _ _ | exact Kd.V_nil _ _ _ _ _ | exact Kd.Q_nil _ _ _ _ _ | exact Kd.R_nil _ _ _ _ _⟩, ⟨by repeat (first | (with_reducible first | exact HB.out | apply below_alloc | apply pw_below_drewN | apply below_drew1) | exact HB.out)⟩⟩
  case round =>
    clear H'
    try clear c1
    obtain ⟨x5_1, x14_1, rfl, HA, HK1, HO_5, HB⟩ := hrel
    replace HO_5 := Aside0.mk (Kd.S_mono (ok' := fun k_ => k_ ≠ wr.heap.size) (Kd.S_elderB HO_5.out wr.heap.size (Nat.le_refl _)) (fun k_ h_ => h_.2))
    have HBI := Aside0.mk (cell_new wr #[.int .i64 x14_1] 3 0 rfl)
    have HXr := Aside0.mk (pw_cell_below HB.out HX.out)
    have HCr := Aside0.mk (HC.out.keep HB.out)
    cases gk with
    | zero => exact absurd HA.out (by simp [gate_AlikeT.l0])
    | succ k1 =>
      have H := HA.out
      clear HA
      simp only [gate_AlikeT.l0] at H
      by_cases c2 : x14_1 < a0
      · rw [if_pos c2] at H
        have c2b0 : decide (x14_1 < a0) = true := decide_eq_true c2
        clear c2
        replace H := Option.bind_eq_some_iff.mp H
        obtain ⟨t101, A30, H⟩ := H
        replace H : (if t101 < 0 then (if x5_1.length < 5864062014805 then ((some (x5_1 ++ [[]] : List (List Int))).bind fun y102 => (if 0 ≤ (wrap64 ((y102.length : Int) - 1)) then (if (wrap64 ((y102.length : Int) - 1)) < (y102.length : Int) then (if (rd_L1 y102 (wrap64 ((y102.length : Int) - 1))).length < 17592186044416 then (gate_AlikeT.l0 cc k1 (y102.set ((wrap64 ((y102.length : Int) - 1)) : Int).toNat ((rd_L1 y102 (wrap64 ((y102.length : Int) - 1))) ++ [x14_1])) a0 (wrap64 (x14_1 + 1))) else (none)) else (none)) else (none))) else (none)) else (if 0 ≤ t101 then (if t101 < (x5_1.length : Int) then (if (rd_L1 x5_1 t101).length < 17592186044416 then (gate_AlikeT.l0 cc k1 (x5_1.set (t101 : Int).toNat ((rd_L1 x5_1 t101) ++ [x14_1])) a0 (wrap64 (x14_1 + 1))) else (none)) else (none)) else (none))) = some (r1, r2) := H
        have A3 := Aside0.mk A30
        clear A30
        by_cases c4 : t101 < 0
        · rw [if_pos c4] at H
          have c4b0 : decide (t101 < 0) = true := decide_eq_true c4
          clear c4
          by_cases c5 : x5_1.length < 5864062014805
          · rw [if_pos c5] at H
            have LMc5 := Aside0.mk c5
            clear c5
            obtain ⟨y102, hy102⟩ : ∃ y_ : List (List Int), y_ = (x5_1 ++ [[]]) := ⟨_, rfl⟩
            replace H : (if 0 ≤ (wrap64 ((y102.length : Int) - 1)) then (if (wrap64 ((y102.length : Int) - 1)) < (y102.length : Int) then (if (rd_L1 y102 (wrap64 ((y102.length : Int) - 1))).length < 17592186044416 then (gate_AlikeT.l0 cc k1 (y102.set ((wrap64 ((y102.length : Int) - 1)) : Int).toNat ((rd_L1 y102 (wrap64 ((y102.length : Int) - 1))) ++ [x14_1])) a0 (wrap64 (x14_1 + 1))) else (none)) else (none)) else (none)) = some (r1, r2) := by first | (rw [hy102]; with_reducible exact H) | (have H2_ := (Option.bind_some _ _).symm.trans H; rw [hy102]; with_reducible exact H2_) | (have H2_ := (Option.bind_some _ _).symm.trans H; with_reducible exact H2_) | with_reducible exact H | (rw [hy102]; exact H) | exact H
            have Ny102 := Aside0.mk hy102
            clear hy102
            obtain ⟨ji6, hji6⟩ : ∃ j_ : Int, (wrap64 ((y102.length : Int) - 1)) = j_ := ⟨_, rfl⟩
            replace H : (if 0 ≤ (ji6) then (if (ji6) < (y102.length : Int) then (if (rd_L1 y102 (ji6)).length < 17592186044416 then (gate_AlikeT.l0 cc k1 (y102.set ((ji6) : Int).toNat ((rd_L1 y102 (ji6)) ++ [x14_1])) a0 (wrap64 (x14_1 + 1))) else (none)) else (none)) else (none)) = some (r1, r2) := by first | (rw [hji6] at H; exact H) | (simp only [hji6] at H ⊢; exact H)
            (try rw [hji6] at A3)
            have hji6w : (IntKind.i64.wrap ((y102.length : Int) - 1)) = ji6 := (i64_w _).trans hji6
            by_cases c7 : 0 ≤ (ji6)
            · rw [if_pos c7] at H
              have c7b0 : decide (0 ≤ (ji6)) = true := decide_eq_true c7
              clear c7
              by_cases c8 : (ji6) < (y102.length : Int)
              · rw [if_pos c8] at H
                have c8b0 : decide ((ji6) < (y102.length : Int)) = true := decide_eq_true c8
                clear c8
                by_cases c9 : (rd_L1 y102 (ji6)).length < 17592186044416
                · rw [if_pos c9] at H
                  have LMc9 := Aside0.mk c9
                  clear c9
                  obtain ⟨y106, hy106⟩ : ∃ y_ : List Int, y_ = ((rd_L1 y102 (ji6)) ++ [x14_1]) := ⟨_, rfl⟩
                  replace H : (gate_AlikeT.l0 cc k1 (y102.set ((ji6) : Int).toNat y106) a0 (wrap64 (x14_1 + 1))) = some (r1, r2) := by first | (rw [hy106]; with_reducible exact H) | (have H2_ := (Option.bind_some _ _).symm.trans H; rw [hy106]; with_reducible exact H2_) | (have H2_ := (Option.bind_some _ _).symm.trans H; with_reducible exact H2_) | with_reducible exact H | (rw [hy106]; exact H) | exact H
                  have Ny106 := Aside0.mk hy106
                  clear hy106
                  obtain ⟨y109, hy109⟩ : ∃ y_ : List (List Int), y_ = (y102.set ((ji6) : Int).toNat y106) := ⟨_, rfl⟩
                  replace H : (gate_AlikeT.l0 cc k1 y109 a0 (wrap64 (x14_1 + 1))) = some (r1, r2) := by first | (rw [hy109]; with_reducible exact H) | (have H2_ := (Option.bind_some _ _).symm.trans H; rw [hy109]; with_reducible exact H2_) | (have H2_ := (Option.bind_some _ _).symm.trans H; with_reducible exact H2_) | with_reducible exact H | (rw [hy109]; exact H) | exact H
                  have Ny109 := Aside0.mk hy109
                  clear hy109
                  have H' := Aside0.mk H
                  clear H
                  obtain ⟨Ao11, co11, eo11⟩ := Kd.S_slice HO_5.out
                  subst eo11
                  go_wp2_with (first | (go_at_call 56; (with_reducible refine (HIx.out (HCr.out.keep (below_alloc (Below.refl _ _) _)) (pw_cell_below (below_alloc (Below.refl _ _) _) HXr.out) HBI.out (Kd.C_alloc (Kd.S_reads' HO_5.out).2.2 _) A3.out).mono ?_); rintro e w12 ⟨rfl, hb⟩; have HBX := Aside0.mk (pw_cell_below hb HBI.out); have n0_ := Aside0.mk (Kd.S_below (by (with_reducible repeat (first | apply Kd.S_alloc | apply Kd.S_drewN | apply Kd.S_drew)); exact HO_5.out) hb); have n1_ := Aside0.mk (below_step (by repeat (first | (with_reducible first | exact HB.out | apply below_alloc | apply pw_below_drewN | apply below_drew1) | exact HB.out)) hb); clear HO_5; clear HB; have HO_5 := n0_; have HB := n1_; clear n0_ n1_; (try clear hb); (try clear hb2); (try clear hk); (try clear hi)) | ((with_reducible refine gate_builtin (b := .append) (xs := #[.tmp 22, .tmp 23]) rfl ?_); at_builtin; refine Kd.S_append (Kd.slice 3 (Kd.int .i64)) (w0 := w) w.heap.size rfl (.tmp 22) (.tmp 23) 28 23 (.slice none 0 0) 24 rfl Try.underlying28 info23 rfl (by decide) (by omega) (.slice Ao11 x5_1.length co11) x5_1 [] [.slice none 0 0] (fun k_ => k_ ≠ wr.heap.size) (fun _ => False) rfl rfl ?aP (fun _ hk => hk.elim) ?aF ?aO ?aB ?aS ?aL ?_; (case aP => exact ⟨_, rfl, Kd.R_nil _ _ _ _ _⟩); (case aB => exact (by repeat (first | (with_reducible first | exact HB.out | apply below_alloc | apply pw_below_drewN | apply below_drew1) | exact HB.out))); (case aF => exact (fun k_ h_ => fun e_ => by have h2_ : wr.heap.size < _ := World.block_lt_of_cell? _ _ HBX.out; omega)); (case aO => exact (by (with_reducible repeat (first | apply Kd.S_alloc | apply Kd.S_drewN | apply Kd.S_drew)); exact Kd.S_mono HO_5.out (fun k_ hk => ⟨hk, fun e_ => e_⟩))); (case aS => exact (below_size (by repeat (first | (with_reducible first | exact HB.out | apply below_alloc | apply pw_below_drewN | apply below_drew1) | exact HB.out)))); (case aL => have := LMc5.out; omega); intro v103 w13 ho hb hg hat; replace HBX := Aside0.mk (cell_grown hg HBX.out (fun e_ => by obtain ⟨f_, h0_, _⟩ := HO_5.out; exact h0_ _ e_.symm rfl)); rw [← Ny102.out] at ho; have n0_ := Aside0.mk (hb); have n1_ := Aside0.mk (ho); clear HB; clear HO_5; have HB := n0_; have HO104 := n1_; clear n0_ n1_; clear ho hb hg hat; obtain ⟨Ao14, co14, eo14⟩ := Kd.S_slice HO104.out; subst eo14))
                  have n0_ := Aside0.mk (Kd.S_drew HO104.out)
                  have n1_ := Aside0.mk (below_drew1 HB.out)
                  clear HO104
                  clear HB
                  have HO104 := n0_
                  have HB := n1_
                  clear n0_ n1_
                  have p105 : 0 ≤ ((ji6) : Int) := of_decide_eq_true (by first | (with_reducible assumption) | assumption)
                  have q105 : (ji6) < (y102.length : Int) := of_decide_eq_true (by first | (with_reducible assumption) | assumption)
                  obtain ⟨ad105, A105_0, c105_0, e105, hx105_0, hl105_0, hi105_0⟩ := at_L1 (Kd.S_reads' HO104.out).2.2 (ji6) p105 q105
                  cases e105
                  obtain ⟨ce105, hce105, hMe105, hcc105⟩ := Kd.S_get HO104.out [] (ji6) p105 (by first | exact q105 | exact of_decide_eq_true (by first | (with_reducible assumption) | assumption) | (have e_ := (Kd.S_reads' HO104.out).1; omega))
                  obtain ⟨ve105_0, rfl, ge105_0⟩ := hMe105
                  have hv105_0 := hcc105 0 _ rfl
                  rw [Nat.add_zero, show ((Kd.slice 3 (Kd.int .i64))).sz = 1 from rfl, Nat.mul_one] at hv105_0
                  replace hv105_0 := Option.some.inj (hv105_0.symm.trans hx105_0)
                  rw [hv105_0] at ge105_0
                  have HL105_0 := Aside0.mk (show Kd.R (Kd.int .i64) 3 _ _ _ _ (rd_L1 y102 (ji6)) from ge105_0)
                  clear hv105_0 ge105_0
                  have HX105_0 := Aside0.mk hx105_0
                  clear hcc105 hce105
                  have HR105_0 := Aside0.mk hi105_0
                  have HC105_0 := Aside0.mk hl105_0
                  clear hi105_0 hl105_0
                  replace p105 := eq_true p105
                  replace q105 := eq_true q105
                  obtain ⟨go16, co16, eo16, gb16, gl16, cl16, HG16⟩ := Kd.S_form HO104.out (by have h_ : ((ji6) : Int) < ((y102.length : Int) : Int) := of_decide_eq_true (by first | (with_reducible assumption) | assumption); have h2_ : 0 ≤ ((ji6) : Int) := (of_decide_eq_true (by first | (with_reducible assumption) | assumption)); omega)
                  (first | cases eo16 | (injection eo16 with ea_ en_ ec_; (first | subst ea_ | (injection ea_ with ea_; subst ea_)); subst ec_; clear en_))
                  have GB16 := Aside0.mk gb16
                  have GG16 := Aside0.mk HG16
                  clear gb16 gl16 HG16
                  (first | simp only [add_plain] at hx105_0 | skip)
                  obtain ⟨oki16, ce16, hcl16, hM16, hcc16, _, _, hH16⟩ := Kd.S_elem HO104.out [] ((ji6) : Int) (of_decide_eq_true (by first | (with_reducible assumption) | assumption)) (by have h_ : ((ji6) : Int) < ((y102.length : Int) : Int) := of_decide_eq_true (by first | (with_reducible assumption) | assumption); first | exact h_ | (have e_ := (Kd.S_reads' HO104.out).1; omega) | simpa using h_)
                  obtain ⟨ve16_0, rfl, ge16_0⟩ := hM16
                  have hv16 := hcc16 0 _ rfl
                  have hX16 := HX105_0.out
                  (try simp only [add_plain] at hX16)
                  (try simp only [Nat.add_zero] at hv16)
                  (try rw [show ((Kd.slice 3 (Kd.int .i64))).sz = 1 from rfl, Nat.mul_one] at hv16)
                  replace hv16 := Option.some.inj (hv16.symm.trans hX16)
                  subst hv16
                  clear hX16 hcc16 hcl16
                  have UU16 := Aside0.mk (show Kd.R (Kd.int .i64) 3 _ w.heap.size oki16 (.slice A105_0 (rd_L1 y102 (ji6)).length c105_0) (rd_L1 y102 (ji6)) from ge16_0)
                  have HH16 := Aside0.mk hH16
                  have HN16 := Aside0.mk (Kd.S_reads' HO104.out).1
                  clear hH16 ge16_0
                  refine start_ (n := 11) (S := fun w' => w'.cell? ⟨go16, ((ji6)).toNat, none⟩ = some (.slice A105_0 (rd_L1 y102 (ji6)).length c105_0) ∧ w'.cell? ⟨wr.heap.size, 0, none⟩ = some (.int .i64 x14_1)) (ds := [10]) #[false, false, false, false, false, false, false, false, false, false, false] (by kernel_rfl) rfl rfl ⟨hx105_0, HBX.out⟩ (fun hHeld => ?_); refine with_tabW gate_AlikeT.tab12 gate_AlikeT.bits12 (fun HT_ HW_ => ?_)
                  generalize w13.drew = w15 at HO104 HB GG16 HH16 HL105_0 HR105_0 HX105_0 UU16 hx105_0 hHeld ⊢
                  have HBL := Aside0.mk (show wr.heap.size < w15.heap.size from World.block_lt_of_cell? _ _ hHeld.2)
                  refine pure_ (i := 0) (N := some 28) (v := ?_) (a' := ?_) #[true, false, false, false, false, false, false, false, false, false, false] rfl rfl (any_of HT_.out (by kernel_rfl)) (fun _ _ _ h => h) (Or.inl ⟨by rfl, ?_⟩) ?_ ?_
                  rotate_left
                  · intro w'
                    go_simp
                    with_reducible rfl
                  rotate_left
                  · simp only [Act.put, List.setIfInBounds_toArray, List.set_cons_zero, List.set_cons_succ, i64_w, i32_w]
                    rfl
                  refine pure_ (i := 1) (N := some 29) (v := ?_) (a' := ?_) #[true, true, false, false, false, false, false, false, false, false, false] rfl rfl (any_of HT_.out (by kernel_rfl)) (fun _ _ _ h => h) (Or.inl ⟨by rfl, ?_⟩) ?_ ?_
                  rotate_left
                  · intro w'
                    go_simp
                    with_reducible rfl
                  rotate_left
                  · simp only [Act.put, List.setIfInBounds_toArray, List.set_cons_zero, List.set_cons_succ, i64_w, i32_w]
                    rfl
                  refine pure_ (i := 2) (N := some 30) (v := ?_) (a' := ?_) #[true, true, true, false, false, false, false, false, false, false, false] rfl rfl (any_of HT_.out (by kernel_rfl)) (fun _ _ _ h => h) (Or.inl ⟨by rfl, ?_⟩) ?_ ?_
                  rotate_left
                  · intro w'
                    go_simp
                    with_reducible rfl
                  rotate_left
                  · simp only [Act.put, List.setIfInBounds_toArray, List.set_cons_zero, List.set_cons_succ, i64_w, i32_w]
                    rfl
                  refine pure_ (i := 3) (N := some 31) (v := ?_) (a' := ?_) #[true, true, true, true, false, false, false, false, false, false, false] rfl rfl (any_of HT_.out (by kernel_rfl)) (fun _ _ _ h => h) (Or.inl ⟨by rfl, ?_⟩) ?_ ?_
                  rotate_left
                  · intro w'
                    go_simp
                    with_reducible rfl
                  rotate_left
                  · simp only [Act.put, List.setIfInBounds_toArray, List.set_cons_zero, List.set_cons_succ, i64_w, i32_w]
                    rfl
                  refine pure_ (i := 4) (N := some 32) (v := ?_) (a' := ?_) #[true, true, true, true, true, false, false, false, false, false, false] rfl rfl (any_of HT_.out (by kernel_rfl)) (fun _ _ _ h => h) (Or.inl ⟨by rfl, ?_⟩) ?_ ?_
                  rotate_left
                  · intro w'
                    go_simp
                    with_reducible rfl
                  rotate_left
                  · simp only [Act.put, List.setIfInBounds_toArray, List.set_cons_zero, List.set_cons_succ, i64_w, i32_w]
                    rfl
                  refine take_ (i := 6) (N := some 34) (v := ?_) (a' := ?_) #[true, true, true, true, true, false, true, false, false, false, false] rfl rfl (take_ofW HT_.out HW_.out (by kernel_rfl)) (fun _ _ _ h => h) (Or.inl ⟨by rfl, ?_⟩) hHeld ?_ ?_
                  rotate_left
                  · intro w' s0
                    obtain ⟨s0, s1⟩ := s0
                    go_simp
                    with_reducible rfl
                  rotate_left
                  · simp only [Act.put, List.setIfInBounds_toArray, List.set_cons_zero, List.set_cons_succ, i64_w, i32_w]
                    rfl
                  refine take_ (i := 5) (N := some 33) (v := ?_) (a' := ?_) #[true, true, true, true, true, true, true, false, false, false, false] rfl rfl (take_ofW HT_.out HW_.out (by kernel_rfl)) (fun _ _ _ h => h) (Or.inl ⟨by rfl, ?_⟩) hHeld ?_ ?_
                  rotate_left
                  · intro w' s0
                    obtain ⟨s0, s1⟩ := s0
                    go_simp
                    with_reducible rfl
                  rotate_left
                  · simp only [Act.put, List.setIfInBounds_toArray, List.set_cons_zero, List.set_cons_succ, i64_w, i32_w]
                    rfl
                  refine one_ (i := 7) (N := some 35) #[true, true, true, true, true, true, true, true, false, false, false] rfl rfl (one_of HT_.out (by kernel_rfl)) (by decide) (fun K hK => ?_)
                  refine value_ (w1 := ?_) (v := ?_) (by rfl) rfl ?_ ?_
                  rotate_left 2
                  · go_simp
                    constructor
                    · rfl
                    · rfl
                  refine hK.out _ _ ⟨(World.cell?_alloc_lt _ _ _ (World.block_lt_of_cell? _ _ (hHeld.1))).trans (hHeld.1), (World.cell?_alloc_lt _ _ _ (World.block_lt_of_cell? _ _ (hHeld.2))).trans (hHeld.2)⟩ (fun hHeld => ?_)
                  clear hK K
                  refine norm_ (a' := ?_) ?_ ?_
                  rotate_left
                  · show Act.put _ (some 35) _ = _
                    simp only [Act.put, List.setIfInBounds_toArray, List.set_cons_zero, List.set_cons_succ, i64_w, i32_w]
                    rfl
                  refine one_ (i := 8) (N := some 36) #[true, true, true, true, true, true, true, true, true, false, false] rfl rfl (one_of HT_.out (by kernel_rfl)) (by decide) (fun K hK => ?_)
                  refine Kd.R_append_step (Kd.int .i64) (w0 := w) w.heap.size (by rfl) (.tmp 33) (.tmp 35) 23 3 (.int .i64 0) 8 rfl Try.underlying23 info3 rfl (by decide) (by omega) (.slice A105_0 (rd_L1 y102 (ji6)).length c105_0) (rd_L1 y102 (ji6)) x14_1 [.int .i64 x14_1] (fun k_ => oki16 k_ ∨ ((fun k_ => k_ ≠ wr.heap.size)) k_ ∧ w15.heap.size ≤ k_) (fun _ => False) rfl rfl ?aP (fun _ hk => hk.elim) ?aF ?aO ?aB ?aS ?aL ?_
                  (case aP => exact rfl)
                  (case aB => exact (by repeat (first | (with_reducible first | exact HB.out | apply below_alloc | apply pw_below_drewN | apply below_drew1) | exact HB.out)))
                  (case aF => exact (fun k_ hk => .inr ⟨fun e_ => by have h1_ := HBL.out; omega, hk⟩))
                  (case aO => exact (by (with_reducible repeat (first | apply Kd.R_alloc | apply Kd.R_drewN | apply Kd.R_drew)); exact Kd.R_mono UU16.out (fun _ hk => .inl hk)))
                  (case aS => exact (below_size (by repeat (first | (with_reducible first | exact HB.out | apply below_alloc | apply pw_below_drewN | apply below_drew1) | exact HB.out))))
                  (case aL => have := LMc9.out; omega)
                  intro v107 w17 ho hb hg hat
                  (first | have HS0_ := cell_grown hg (hHeld.1) (by first | (rw [add_block]; exact (fun e_ => ((HL105_0.out.1 _ e_.symm).2) rfl)) | (show some (Addr.add _ _).block ≠ _; rw [add_block]; exact (fun e_ => ((HL105_0.out.1 _ e_.symm).2) rfl)) | exact (fun e_ => ((HL105_0.out.1 _ e_.symm).2) rfl)) | have HS0_ := cell_grown hg (cell_unalloc (hHeld.1) (by first | (rw [add_block]; exact Kd.S_lt HO104.out _ rfl) | (show (Addr.add _ _).block < _; rw [add_block]; exact Kd.S_lt HO104.out _ rfl) | exact Kd.S_lt HO104.out _ rfl)) (by first | (rw [add_block]; exact (fun e_ => ((HL105_0.out.1 _ e_.symm).2) rfl)) | (show some (Addr.add _ _).block ≠ _; rw [add_block]; exact (fun e_ => ((HL105_0.out.1 _ e_.symm).2) rfl)) | exact (fun e_ => ((HL105_0.out.1 _ e_.symm).2) rfl)))
                  have HS1_ : _ := cell_grown (a := ⟨wr.heap.size, 0, none⟩) (v := .int .i64 x14_1) hg (by first | exact hHeld.2 | exact cell_unalloc hHeld.2 HBL.out) (fun e_ => ((HL105_0.out.1 _ e_.symm).1) rfl)
                  rw [← Ny106.out] at ho
                  have n0_ := Aside0.mk (hb)
                  have n1_ := Aside0.mk (Kd.H_grown (Kd.H_widen (by repeat (first | exact HH16.out | refine Kd.H_alloc ?_ _ | refine Kd.H_drewN ?_ _ | refine Kd.H_drew ?_))) hg (fun k_ e_ => .inl (UU16.out.1 k_ e_)))
                  have n2_ := Aside0.mk (ho)
                  clear HB
                  clear HH16
                  clear HO104
                  clear UU16
                  clear HL105_0
                  have HB := n0_
                  have HH16 := n1_
                  have HO108 := n2_
                  clear n0_ n1_ n2_
                  clear ho hb hg hat
                  have p10 : 0 ≤ ((ji6) : Int) := of_decide_eq_true (by first | (with_reducible assumption) | assumption)
                  have q10 : ((ji6) : Int) < ((y102.length : Int) : Int) := of_decide_eq_true (by first | (with_reducible assumption) | assumption)
                  replace p10 := eq_true p10
                  replace q10 := eq_true q10
                  obtain ⟨Ao20, co20, eo20⟩ := Kd.R_slice HO108.out
                  (first | subst eo20 | (injection eo20 with f1_ f2_ f3_; have f4_ := f1_.symm; have f5_ := f3_.symm; clear f1_ f2_ f3_; subst f4_; subst f5_))
                  obtain ⟨_, _, hraw18, _, _, hcc18, _⟩ := Kd.H_raw HH16.out (of_decide_eq_true (by first | (with_reducible assumption) | assumption)) (by have h_ : ((ji6) : Int) < ((y102.length : Int) : Int) := of_decide_eq_true (by first | (with_reducible assumption) | assumption); first | exact h_ | (have e_ := (HN16.out); omega) | simpa using h_)
                  obtain ⟨_, hfr18⟩ := Kd.H_at HH16.out (of_decide_eq_true (by first | (with_reducible assumption) | assumption)) (by have h_ : ((ji6) : Int) < ((y102.length : Int) : Int) := of_decide_eq_true (by first | (with_reducible assumption) | assumption); first | exact h_ | (have e_ := (HN16.out); omega) | simpa using h_)
                  have hx18_0 := hcc18 0 _ rfl
                  have hf18_0 := hfr18 0
                  (try simp only [Nat.add_zero] at hx18_0 hf18_0)
                  (try rw [show ((Kd.slice 3 (Kd.int .i64))).sz = 1 from rfl, Nat.mul_one] at hx18_0)
                  (try rw [show ((Kd.slice 3 (Kd.int .i64))).sz = 1 from rfl, Nat.mul_one] at hf18_0)
                  have HP18 := Kd.S_seg0 HH16.out (of_decide_eq_true (by first | (with_reducible assumption) | assumption)) (by have h_ : ((ji6) : Int) < ((y102.length : Int) : Int) := of_decide_eq_true (by first | (with_reducible assumption) | assumption); first | exact h_ | (have e_ := (HN16.out); omega) | simpa using h_) (seg := [.slice Ao20 y106.length co20]) (j := 0) (show 1 ≤ 1 from by decide) (x' := y106) (Kd.M_row HO108.out) (fun _ hk => hk)
                  (try simp only [show ((Kd.slice 3 (Kd.int .i64))).sz = 1 from rfl, Nat.mul_one, Nat.add_zero] at HP18)
                  clear hcc18 hfr18
                  have HS18 := HP18.1
                  rw [← Ny109.out] at HS18
                  have HQ18 := Aside0.mk HS18
                  obtain ⟨_, hgg18⟩ := Kd.R_typed hraw18 go16 rfl
                  have GG18_ := Aside0.mk hgg18
                  clear HP18 HS18 hgg18
                  refine hK.out _ _ ⟨HS0_, HS1_⟩ (fun hHeld => ?_)
                  clear hK K
                  refine norm_ (a' := ?_) ?_ ?_
                  rotate_left
                  · show Act.put _ (some 36) _ = _
                    simp only [Act.put, List.setIfInBounds_toArray, List.set_cons_zero, List.set_cons_succ, i64_w, i32_w]
                    rfl
                  refine pure_ (i := 9) (N := some 37) (v := ?_) (a' := ?_) #[true, true, true, true, true, true, true, true, true, true, false] rfl rfl (any_of HT_.out (by kernel_rfl)) (fun _ _ _ h => h) (Or.inl ⟨by rfl, ?_⟩) ?_ ?_
                  rotate_left
                  · intro w'
                    go_simp
                    with_reducible rfl
                  rotate_left
                  · simp only [Act.put, List.setIfInBounds_toArray, List.set_cons_zero, List.set_cons_succ, i64_w, i32_w]
                    rfl
                  refine last_ (i := 10) (N := none) #[true, true, true, true, true, true, true, true, true, true, true] rfl rfl (one_of HT_.out (by kernel_rfl)) (by decide) (fun K hK => ?_)
                  refine skip_ (w1 := ?_) (by rfl) rfl ?_ ?_
                  rotate_left
                  · go_simp
                    rfl
                  refine hK.out _ _ ?_
                  clear hK K
                  refine done_ (done_of HT_.out (by kernel_rfl)) ?_
                  try go_wp2
                  go_roundg k1
                  case measure => have := HK1.out; omega
                  case rel => exact ⟨(y109), (wrap64 (x14_1 + 1)), (by first | rfl | (simp; done) | (simp [*]; done)), H', ⟨by have := HK1.out; omega⟩, ⟨by (with_reducible repeat (first | apply Kd.S_alloc | apply Kd.S_drewN | apply Kd.S_drew)); exact Kd.S_mono HQ18.out (fun _ _ => trivial)⟩, ⟨by repeat (first | (with_reducible first | exact HB.out | apply below_alloc | apply pw_below_drewN | apply below_drew1 | refine below_set ?_ GB16.out) | exact HB.out)⟩⟩
                · rw [if_neg c9] at H
                  exact absurd H (by simp)
              · rw [if_neg c8] at H
                exact absurd H (by simp)
            · rw [if_neg c7] at H
              exact absurd H (by simp)
          · rw [if_neg c5] at H
            exact absurd H (by simp)
        · rw [if_neg c4] at H
          have c4b0 : decide (t101 < 0) = false := decide_eq_false c4
          clear c4
          by_cases c21 : 0 ≤ t101
          · rw [if_pos c21] at H
            have c21b0 : decide (0 ≤ t101) = true := decide_eq_true c21
            clear c21
            by_cases c22 : t101 < (x5_1.length : Int)
            · rw [if_pos c22] at H
              have c22b0 : decide (t101 < (x5_1.length : Int)) = true := decide_eq_true c22
              clear c22
              by_cases c23 : (rd_L1 x5_1 t101).length < 17592186044416
              · rw [if_pos c23] at H
                have LMc23 := Aside0.mk c23
                clear c23
                obtain ⟨y111, hy111⟩ : ∃ y_ : List Int, y_ = ((rd_L1 x5_1 t101) ++ [x14_1]) := ⟨_, rfl⟩
                replace H : (gate_AlikeT.l0 cc k1 (x5_1.set (t101 : Int).toNat y111) a0 (wrap64 (x14_1 + 1))) = some (r1, r2) := by first | (rw [hy111]; with_reducible exact H) | (have H2_ := (Option.bind_some _ _).symm.trans H; rw [hy111]; with_reducible exact H2_) | (have H2_ := (Option.bind_some _ _).symm.trans H; with_reducible exact H2_) | with_reducible exact H | (rw [hy111]; exact H) | exact H
                have Ny111 := Aside0.mk hy111
                clear hy111
                obtain ⟨y114, hy114⟩ : ∃ y_ : List (List Int), y_ = (x5_1.set (t101 : Int).toNat y111) := ⟨_, rfl⟩
                replace H : (gate_AlikeT.l0 cc k1 y114 a0 (wrap64 (x14_1 + 1))) = some (r1, r2) := by first | (rw [hy114]; with_reducible exact H) | (have H2_ := (Option.bind_some _ _).symm.trans H; rw [hy114]; with_reducible exact H2_) | (have H2_ := (Option.bind_some _ _).symm.trans H; with_reducible exact H2_) | with_reducible exact H | (rw [hy114]; exact H) | exact H
                have Ny114 := Aside0.mk hy114
                clear hy114
                have H' := Aside0.mk H
                clear H
                obtain ⟨Ao25, co25, eo25⟩ := Kd.S_slice HO_5.out
                subst eo25
                go_wp2_with (first | (go_at_call 56; (with_reducible refine (HIx.out (HCr.out.keep (below_alloc (Below.refl _ _) _)) (pw_cell_below (below_alloc (Below.refl _ _) _) HXr.out) HBI.out (Kd.C_alloc (Kd.S_reads' HO_5.out).2.2 _) A3.out).mono ?_); rintro e w26 ⟨rfl, hb⟩; have HBX := Aside0.mk (pw_cell_below hb HBI.out); have n0_ := Aside0.mk (Kd.S_below (by (with_reducible repeat (first | apply Kd.S_alloc | apply Kd.S_drewN | apply Kd.S_drew)); exact HO_5.out) hb); have n1_ := Aside0.mk (below_step (by repeat (first | (with_reducible first | exact HB.out | apply below_alloc | apply pw_below_drewN | apply below_drew1) | exact HB.out)) hb); clear HO_5; clear HB; have HO_5 := n0_; have HB := n1_; clear n0_ n1_; (try clear hb); (try clear hb2); (try clear hk); (try clear hi)))
                have n0_ := Aside0.mk (Kd.S_drew HO_5.out)
                have n1_ := Aside0.mk (below_drew1 HB.out)
                clear HO_5
                clear HB
                have HO_5 := n0_
                have HB := n1_
                clear n0_ n1_
                have p110 : 0 ≤ (t101 : Int) := of_decide_eq_true (by first | (with_reducible assumption) | assumption)
                have q110 : t101 < (x5_1.length : Int) := of_decide_eq_true (by first | (with_reducible assumption) | assumption)
                obtain ⟨ad110, A110_0, c110_0, e110, hx110_0, hl110_0, hi110_0⟩ := at_L1 (Kd.S_reads' HO_5.out).2.2 t101 p110 q110
                cases e110
                obtain ⟨ce110, hce110, hMe110, hcc110⟩ := Kd.S_get HO_5.out [] t101 p110 (by first | exact q110 | exact of_decide_eq_true (by first | (with_reducible assumption) | assumption) | (have e_ := (Kd.S_reads' HO_5.out).1; omega))
                obtain ⟨ve110_0, rfl, ge110_0⟩ := hMe110
                have hv110_0 := hcc110 0 _ rfl
                rw [Nat.add_zero, show ((Kd.slice 3 (Kd.int .i64))).sz = 1 from rfl, Nat.mul_one] at hv110_0
                replace hv110_0 := Option.some.inj (hv110_0.symm.trans hx110_0)
                rw [hv110_0] at ge110_0
                have HL110_0 := Aside0.mk (show Kd.R (Kd.int .i64) 3 _ _ _ _ (rd_L1 x5_1 t101) from ge110_0)
                clear hv110_0 ge110_0
                have HX110_0 := Aside0.mk hx110_0
                clear hcc110 hce110
                have HR110_0 := Aside0.mk hi110_0
                have HC110_0 := Aside0.mk hl110_0
                clear hi110_0 hl110_0
                replace p110 := eq_true p110
                replace q110 := eq_true q110
                obtain ⟨go28, co28, eo28, gb28, gl28, cl28, HG28⟩ := Kd.S_form HO_5.out (by have h_ : (t101 : Int) < ((x5_1.length : Int) : Int) := of_decide_eq_true (by first | (with_reducible assumption) | assumption); have h2_ : 0 ≤ (t101 : Int) := (of_decide_eq_true (by first | (with_reducible assumption) | assumption)); omega)
                (first | cases eo28 | (injection eo28 with ea_ en_ ec_; (first | subst ea_ | (injection ea_ with ea_; subst ea_)); subst ec_; clear en_))
                have GB28 := Aside0.mk gb28
                have GG28 := Aside0.mk HG28
                clear gb28 gl28 HG28
                (first | simp only [add_plain] at hx110_0 | skip)
                obtain ⟨oki28, ce28, hcl28, hM28, hcc28, _, _, hH28⟩ := Kd.S_elem HO_5.out [] (t101 : Int) (of_decide_eq_true (by first | (with_reducible assumption) | assumption)) (by have h_ : (t101 : Int) < ((x5_1.length : Int) : Int) := of_decide_eq_true (by first | (with_reducible assumption) | assumption); first | exact h_ | (have e_ := (Kd.S_reads' HO_5.out).1; omega) | simpa using h_)
                obtain ⟨ve28_0, rfl, ge28_0⟩ := hM28
                have hv28 := hcc28 0 _ rfl
                have hX28 := HX110_0.out
                (try simp only [add_plain] at hX28)
                (try simp only [Nat.add_zero] at hv28)
                (try rw [show ((Kd.slice 3 (Kd.int .i64))).sz = 1 from rfl, Nat.mul_one] at hv28)
                replace hv28 := Option.some.inj (hv28.symm.trans hX28)
                subst hv28
                clear hX28 hcc28 hcl28
                have UU28 := Aside0.mk (show Kd.R (Kd.int .i64) 3 _ w.heap.size oki28 (.slice A110_0 (rd_L1 x5_1 t101).length c110_0) (rd_L1 x5_1 t101) from ge28_0)
                have HH28 := Aside0.mk hH28
                have HN28 := Aside0.mk (Kd.S_reads' HO_5.out).1
                clear hH28 ge28_0
                refine start_ (n := 11) (S := fun w' => w'.cell? ⟨go28, (t101).toNat, none⟩ = some (.slice A110_0 (rd_L1 x5_1 t101).length c110_0) ∧ w'.cell? ⟨wr.heap.size, 0, none⟩ = some (.int .i64 x14_1)) (ds := [10]) #[false, false, false, false, false, false, false, false, false, false, false] (by kernel_rfl) rfl rfl ⟨hx110_0, HBX.out⟩ (fun hHeld => ?_); refine with_tabW gate_AlikeT.tab12 gate_AlikeT.bits12 (fun HT_ HW_ => ?_)
                generalize w26.drew = w27 at HO_5 HB GG28 HH28 HL110_0 HR110_0 HX110_0 UU28 hx110_0 hHeld ⊢
                have HBL := Aside0.mk (show wr.heap.size < w27.heap.size from World.block_lt_of_cell? _ _ hHeld.2)
                refine pure_ (i := 0) (N := some 28) (v := ?_) (a' := ?_) #[true, false, false, false, false, false, false, false, false, false, false] rfl rfl (any_of HT_.out (by kernel_rfl)) (fun _ _ _ h => h) (Or.inl ⟨by rfl, ?_⟩) ?_ ?_
                rotate_left
                · intro w'
                  go_simp
                  with_reducible rfl
                rotate_left
                · simp only [Act.put, List.setIfInBounds_toArray, List.set_cons_zero, List.set_cons_succ, i64_w, i32_w]
                  rfl
                refine pure_ (i := 1) (N := some 29) (v := ?_) (a' := ?_) #[true, true, false, false, false, false, false, false, false, false, false] rfl rfl (any_of HT_.out (by kernel_rfl)) (fun _ _ _ h => h) (Or.inl ⟨by rfl, ?_⟩) ?_ ?_
                rotate_left
                · intro w'
                  go_simp
                  with_reducible rfl
                rotate_left
                · simp only [Act.put, List.setIfInBounds_toArray, List.set_cons_zero, List.set_cons_succ, i64_w, i32_w]
                  rfl
                refine pure_ (i := 2) (N := some 30) (v := ?_) (a' := ?_) #[true, true, true, false, false, false, false, false, false, false, false] rfl rfl (any_of HT_.out (by kernel_rfl)) (fun _ _ _ h => h) (Or.inl ⟨by rfl, ?_⟩) ?_ ?_
                rotate_left
                · intro w'
                  go_simp
                  with_reducible rfl
                rotate_left
                · simp only [Act.put, List.setIfInBounds_toArray, List.set_cons_zero, List.set_cons_succ, i64_w, i32_w]
                  rfl
                refine pure_ (i := 3) (N := some 31) (v := ?_) (a' := ?_) #[true, true, true, true, false, false, false, false, false, false, false] rfl rfl (any_of HT_.out (by kernel_rfl)) (fun _ _ _ h => h) (Or.inl ⟨by rfl, ?_⟩) ?_ ?_
                rotate_left
                · intro w'
                  go_simp
                  with_reducible rfl
                rotate_left
                · simp only [Act.put, List.setIfInBounds_toArray, List.set_cons_zero, List.set_cons_succ, i64_w, i32_w]
                  rfl
                refine pure_ (i := 4) (N := some 32) (v := ?_) (a' := ?_) #[true, true, true, true, true, false, false, false, false, false, false] rfl rfl (any_of HT_.out (by kernel_rfl)) (fun _ _ _ h => h) (Or.inl ⟨by rfl, ?_⟩) ?_ ?_
                rotate_left
                · intro w'
                  go_simp
                  with_reducible rfl
                rotate_left
                · simp only [Act.put, List.setIfInBounds_toArray, List.set_cons_zero, List.set_cons_succ, i64_w, i32_w]
                  rfl
                refine take_ (i := 6) (N := some 34) (v := ?_) (a' := ?_) #[true, true, true, true, true, false, true, false, false, false, false] rfl rfl (take_ofW HT_.out HW_.out (by kernel_rfl)) (fun _ _ _ h => h) (Or.inl ⟨by rfl, ?_⟩) hHeld ?_ ?_
                rotate_left
                · intro w' s0
                  obtain ⟨s0, s1⟩ := s0
                  go_simp
                  with_reducible rfl
                rotate_left
                · simp only [Act.put, List.setIfInBounds_toArray, List.set_cons_zero, List.set_cons_succ, i64_w, i32_w]
                  rfl
                refine take_ (i := 5) (N := some 33) (v := ?_) (a' := ?_) #[true, true, true, true, true, true, true, false, false, false, false] rfl rfl (take_ofW HT_.out HW_.out (by kernel_rfl)) (fun _ _ _ h => h) (Or.inl ⟨by rfl, ?_⟩) hHeld ?_ ?_
                rotate_left
                · intro w' s0
                  obtain ⟨s0, s1⟩ := s0
                  go_simp
                  with_reducible rfl
                rotate_left
                · simp only [Act.put, List.setIfInBounds_toArray, List.set_cons_zero, List.set_cons_succ, i64_w, i32_w]
                  rfl
                refine one_ (i := 7) (N := some 35) #[true, true, true, true, true, true, true, true, false, false, false] rfl rfl (one_of HT_.out (by kernel_rfl)) (by decide) (fun K hK => ?_)
                refine value_ (w1 := ?_) (v := ?_) (by rfl) rfl ?_ ?_
                rotate_left 2
                · go_simp
                  constructor
                  · rfl
                  · rfl
                refine hK.out _ _ ⟨(World.cell?_alloc_lt _ _ _ (World.block_lt_of_cell? _ _ (hHeld.1))).trans (hHeld.1), (World.cell?_alloc_lt _ _ _ (World.block_lt_of_cell? _ _ (hHeld.2))).trans (hHeld.2)⟩ (fun hHeld => ?_)
                clear hK K
                refine norm_ (a' := ?_) ?_ ?_
                rotate_left
                · show Act.put _ (some 35) _ = _
                  simp only [Act.put, List.setIfInBounds_toArray, List.set_cons_zero, List.set_cons_succ, i64_w, i32_w]
                  rfl
                refine one_ (i := 8) (N := some 36) #[true, true, true, true, true, true, true, true, true, false, false] rfl rfl (one_of HT_.out (by kernel_rfl)) (by decide) (fun K hK => ?_)
                refine Kd.R_append_step (Kd.int .i64) (w0 := w) w.heap.size (by rfl) (.tmp 33) (.tmp 35) 23 3 (.int .i64 0) 8 rfl Try.underlying23 info3 rfl (by decide) (by omega) (.slice A110_0 (rd_L1 x5_1 t101).length c110_0) (rd_L1 x5_1 t101) x14_1 [.int .i64 x14_1] (fun k_ => oki28 k_ ∨ ((fun k_ => k_ ≠ wr.heap.size)) k_ ∧ w27.heap.size ≤ k_) (fun _ => False) rfl rfl ?aP (fun _ hk => hk.elim) ?aF ?aO ?aB ?aS ?aL ?_
                (case aP => exact rfl)
                (case aB => exact (by repeat (first | (with_reducible first | exact HB.out | apply below_alloc | apply pw_below_drewN | apply below_drew1) | exact HB.out)))
                (case aF => exact (fun k_ hk => .inr ⟨fun e_ => by have h1_ := HBL.out; omega, hk⟩))
                (case aO => exact (by (with_reducible repeat (first | apply Kd.R_alloc | apply Kd.R_drewN | apply Kd.R_drew)); exact Kd.R_mono UU28.out (fun _ hk => .inl hk)))
                (case aS => exact (below_size (by repeat (first | (with_reducible first | exact HB.out | apply below_alloc | apply pw_below_drewN | apply below_drew1) | exact HB.out))))
                (case aL => have := LMc23.out; omega)
                intro v112 w29 ho hb hg hat
                (first | have HS0_ := cell_grown hg (hHeld.1) (by first | (rw [add_block]; exact (fun e_ => ((HL110_0.out.1 _ e_.symm).2) rfl)) | (show some (Addr.add _ _).block ≠ _; rw [add_block]; exact (fun e_ => ((HL110_0.out.1 _ e_.symm).2) rfl)) | exact (fun e_ => ((HL110_0.out.1 _ e_.symm).2) rfl)) | have HS0_ := cell_grown hg (cell_unalloc (hHeld.1) (by first | (rw [add_block]; exact Kd.S_lt HO_5.out _ rfl) | (show (Addr.add _ _).block < _; rw [add_block]; exact Kd.S_lt HO_5.out _ rfl) | exact Kd.S_lt HO_5.out _ rfl)) (by first | (rw [add_block]; exact (fun e_ => ((HL110_0.out.1 _ e_.symm).2) rfl)) | (show some (Addr.add _ _).block ≠ _; rw [add_block]; exact (fun e_ => ((HL110_0.out.1 _ e_.symm).2) rfl)) | exact (fun e_ => ((HL110_0.out.1 _ e_.symm).2) rfl)))
                have HS1_ : _ := cell_grown (a := ⟨wr.heap.size, 0, none⟩) (v := .int .i64 x14_1) hg (by first | exact hHeld.2 | exact cell_unalloc hHeld.2 HBL.out) (fun e_ => ((HL110_0.out.1 _ e_.symm).1) rfl)
                rw [← Ny111.out] at ho
                have n0_ := Aside0.mk (hb)
                have n1_ := Aside0.mk (Kd.H_grown (Kd.H_widen (by repeat (first | exact HH28.out | refine Kd.H_alloc ?_ _ | refine Kd.H_drewN ?_ _ | refine Kd.H_drew ?_))) hg (fun k_ e_ => .inl (UU28.out.1 k_ e_)))
                have n2_ := Aside0.mk (ho)
                clear HB
                clear HH28
                clear HO_5
                clear UU28
                clear HL110_0
                have HB := n0_
                have HH28 := n1_
                have HO113 := n2_
                clear n0_ n1_ n2_
                clear ho hb hg hat
                have p24 : 0 ≤ (t101 : Int) := of_decide_eq_true (by first | (with_reducible assumption) | assumption)
                have q24 : (t101 : Int) < ((x5_1.length : Int) : Int) := of_decide_eq_true (by first | (with_reducible assumption) | assumption)
                replace p24 := eq_true p24
                replace q24 := eq_true q24
                obtain ⟨Ao32, co32, eo32⟩ := Kd.R_slice HO113.out
                (first | subst eo32 | (injection eo32 with f1_ f2_ f3_; have f4_ := f1_.symm; have f5_ := f3_.symm; clear f1_ f2_ f3_; subst f4_; subst f5_))
                obtain ⟨_, _, hraw30, _, _, hcc30, _⟩ := Kd.H_raw HH28.out (of_decide_eq_true (by first | (with_reducible assumption) | assumption)) (by have h_ : (t101 : Int) < ((x5_1.length : Int) : Int) := of_decide_eq_true (by first | (with_reducible assumption) | assumption); first | exact h_ | (have e_ := (HN28.out); omega) | simpa using h_)
                obtain ⟨_, hfr30⟩ := Kd.H_at HH28.out (of_decide_eq_true (by first | (with_reducible assumption) | assumption)) (by have h_ : (t101 : Int) < ((x5_1.length : Int) : Int) := of_decide_eq_true (by first | (with_reducible assumption) | assumption); first | exact h_ | (have e_ := (HN28.out); omega) | simpa using h_)
                have hx30_0 := hcc30 0 _ rfl
                have hf30_0 := hfr30 0
                (try simp only [Nat.add_zero] at hx30_0 hf30_0)
                (try rw [show ((Kd.slice 3 (Kd.int .i64))).sz = 1 from rfl, Nat.mul_one] at hx30_0)
                (try rw [show ((Kd.slice 3 (Kd.int .i64))).sz = 1 from rfl, Nat.mul_one] at hf30_0)
                have HP30 := Kd.S_seg0 HH28.out (of_decide_eq_true (by first | (with_reducible assumption) | assumption)) (by have h_ : (t101 : Int) < ((x5_1.length : Int) : Int) := of_decide_eq_true (by first | (with_reducible assumption) | assumption); first | exact h_ | (have e_ := (HN28.out); omega) | simpa using h_) (seg := [.slice Ao32 y111.length co32]) (j := 0) (show 1 ≤ 1 from by decide) (x' := y111) (Kd.M_row HO113.out) (fun _ hk => hk)
                (try simp only [show ((Kd.slice 3 (Kd.int .i64))).sz = 1 from rfl, Nat.mul_one, Nat.add_zero] at HP30)
                clear hcc30 hfr30
                have HS30 := HP30.1
                rw [← Ny114.out] at HS30
                have HQ30 := Aside0.mk HS30
                obtain ⟨_, hgg30⟩ := Kd.R_typed hraw30 go28 rfl
                have GG30_ := Aside0.mk hgg30
                clear HP30 HS30 hgg30
                refine hK.out _ _ ⟨HS0_, HS1_⟩ (fun hHeld => ?_)
                clear hK K
                refine norm_ (a' := ?_) ?_ ?_
                rotate_left
                · show Act.put _ (some 36) _ = _
                  simp only [Act.put, List.setIfInBounds_toArray, List.set_cons_zero, List.set_cons_succ, i64_w, i32_w]
                  rfl
                refine pure_ (i := 9) (N := some 37) (v := ?_) (a' := ?_) #[true, true, true, true, true, true, true, true, true, true, false] rfl rfl (any_of HT_.out (by kernel_rfl)) (fun _ _ _ h => h) (Or.inl ⟨by rfl, ?_⟩) ?_ ?_
                rotate_left
                · intro w'
                  go_simp
                  with_reducible rfl
                rotate_left
                · simp only [Act.put, List.setIfInBounds_toArray, List.set_cons_zero, List.set_cons_succ, i64_w, i32_w]
                  rfl
                refine last_ (i := 10) (N := none) #[true, true, true, true, true, true, true, true, true, true, true] rfl rfl (one_of HT_.out (by kernel_rfl)) (by decide) (fun K hK => ?_)
                refine skip_ (w1 := ?_) (by rfl) rfl ?_ ?_
                rotate_left
                · go_simp
                  rfl
                refine hK.out _ _ ?_
                clear hK K
                refine done_ (done_of HT_.out (by kernel_rfl)) ?_
                try go_wp2
                go_roundg k1
                case measure => have := HK1.out; omega
                case rel => exact ⟨(y114), (wrap64 (x14_1 + 1)), (by first | rfl | (simp; done) | (simp [*]; done)), H', ⟨by have := HK1.out; omega⟩, ⟨by (with_reducible repeat (first | apply Kd.S_alloc | apply Kd.S_drewN | apply Kd.S_drew)); exact Kd.S_mono HQ30.out (fun _ _ => trivial)⟩, ⟨by repeat (first | (with_reducible first | exact HB.out | apply below_alloc | apply pw_below_drewN | apply below_drew1 | refine below_set ?_ GB28.out) | exact HB.out)⟩⟩
              · rw [if_neg c23] at H
                exact absurd H (by simp)
            · rw [if_neg c22] at H
              exact absurd H (by simp)
          · rw [if_neg c21] at H
            exact absurd H (by simp)
      · rw [if_neg c2] at H
        have c2b0 : decide (x14_1 < a0) = false := decide_eq_false c2
        clear c2
        simp only [Option.some.injEq, Prod.mk.injEq] at H
        obtain ⟨rfl, rfl⟩ := H
        go_wp2
        go_ret2
        exact ⟨_, by first | rfl | (simp [errW_none, errW_some] <;> rfl) | (simp [*, errW_none, errW_some] <;> rfl), Kd.S_lower (by (with_reducible repeat (first | apply Kd.S_alloc | apply Kd.S_drewN | apply Kd.S_drew)); exact Kd.S_mono HO_5.out (fun _ _ => trivial)) HBW.out.size, HBW.out.trans (Below.mono (by repeat (first | (with_reducible first | exact HB.out | apply below_alloc | apply pw_below_drewN | apply below_drew1) | exact HB.out)) HBW.out.size)⟩
set_option maxHeartbeats 8000000 in
set_option maxRecDepth 100000 in
theorem alike_no (n : Int) (A1 : Option Addr) (c1 : Nat) (l1 : List S40) (A2 : Option Addr) (c2 : Nat) (l2 : List Int) (w : World) (hr1 : Kd.C k40 w A1 l1.length l1) (hc1 : l1.length ≤ c1) (hr2 : Kd.C (Kd.int .i64) w A2 l2.length l2) (hc2 : l2.length ≤ c2) (hok : okC n l1 l2 = false) :
    Calls Try.prog 18 #[.agg #[.int .i64 n, .slice A1 l1.length c1, .slice A2 l2.length c2]] w fun e w' => e = .returned (.tuple #[.slice none 0 0, .int .i64 2]) ∧ Below w.heap.size w w' := by
  have HB := Aside0.mk (Below.refl w.heap.size w)
  have HO := Aside0.mk (fun W (hb : Below w.heap.size w W) => of_no n l1 l2 A1 c1 A2 c2 W hok (Kd.C_below hr1 hb) hc1 (Kd.C_below hr2 hb) hc2)
  clear hr1 hc1 hr2 hc2 hok
  go_enter Try.func18, Try.ntmps18
  go_wp2_with (first | (go_at_call 54; (with_reducible refine (HO.out _ (below_alloc HB.out _)).mono ?_); rintro e w1 ⟨rfl, hb⟩; have HB1 := Aside0.mk (below_step (below_alloc HB.out _) hb); clear hb))
  go_ret2
  exact ⟨rfl, by repeat (first | exact HB1.out | apply below_alloc)⟩
def gate_Alike.f (a0 : Int) (l1 : List S40) (l2 : List Int) : Option (List (List Int) × Int) := if okC a0 l1 l2 = true then gate_AlikeT.f (toC a0.toNat l1 l2) 1000 ((2 * (a0.toNat + l1.length) : Nat) : Int) else some ([], 2)
theorem gate_Alike.calls (a0 : Int) (A1 : Option Addr) (c1 : Nat) (l1 : List S40) (A2 : Option Addr) (c2 : Nat) (l2 : List Int) (r1 : List (List Int)) (r2 : Int) (w : World) (hr1 : Kd.C k40 w A1 l1.length l1) (hc1 : l1.length ≤ c1) (hr2 : Kd.C (Kd.int .i64) w A2 l2.length l2) (hc2 : l2.length ≤ c2) (h : gate_Alike.f a0 l1 l2 = some (r1, r2)) :
    Calls Try.prog 18 #[.agg #[.int .i64 a0, .slice A1 l1.length c1, .slice A2 l2.length c2]] w fun e w' => ∃ v0_ : Value, e = .returned (.tuple #[v0_, .int .i64 r2]) ∧ Kd.S (Kd.slice 3 (Kd.int .i64)) 23 w' w.heap.size (fun _ => True) v0_ r1 ∧ Below w.heap.size w w' := by
  unfold gate_Alike.f at h
  by_cases hok : okC a0 l1 l2 = true
  · rw [if_pos hok] at h
    have hs := okC_small hok
    obtain ⟨N, rfl⟩ := Int.eq_ofNat_of_zero_le (show 0 ≤ a0 by omega)
    rw [Int.toNat_natCast] at h
    exact alike_ok _ N A1 c1 l1 A2 c2 l2 r1 r2 w hr1 hc1 hr2 hc2 hok h
  · rw [if_neg hok] at h
    cases h
    refine (alike_no a0 A1 c1 l1 A2 c2 l2 w hr1 hc1 hr2 hc2 (by simpa using hok)).mono ?_
    rintro e w' ⟨rfl, hb⟩
    exact ⟨_, rfl, Kd.S_nil _ _ _ _ _, hb⟩
end Go.Proofs.Ytelfalicickelaa.P
set_option linter.unusedSimpArgs false
set_option linter.unusedVariables false
namespace Go.Proofs.Ytelfalicickelaa.P
open Go.Lib Go.RowKit Go.Proofs.YtelfalicickelaaW.PrintWords Go.Proofs.YtelfalicickelaaW.PrintLast Go.Proofs.YtelfalicickelaaW.PrintMore Go.Proofs.Ytelfalicickelaa.Kit
def gate_Hidden.f (a0 : Int) (l1 : List S40) (l2 : List Int) : Option (List Int × Int) := some (if okC a0 l1 l2 = true then (nI (whereN (toC a0.toNat l1 l2) (fun x => x == 0)), 0) else ([], 2))
def vecOk (a0 v : Int) : Prop := 0 ≤ v ∧ v < ((2 ^ a0.toNat : Nat) : Int)
instance (a0 v : Int) : Decidable (vecOk a0 v) := by unfold vecOk; infer_instance
def gate_Shown.f (a0 : Int) (l1 : List S40) (l2 : List Int) (v : Int) : Option (List Int × Int) := some (if okC a0 l1 l2 = true ∧ vecOk a0 v then (nI (whereN (toC a0.toNat l1 l2) (fun x => x.testBit v.toNat)), 0) else ([], 2))
set_option maxHeartbeats 8000000
set_option maxRecDepth 100000
theorem hidden_ok (N : Nat) (A1 : Option Addr) (c1 : Nat) (l1 : List S40) (A2 : Option Addr) (c2 : Nat) (l2 : List Int) (w : World) (hr1 : Kd.C k40 w A1 l1.length l1) (hc1 : l1.length ≤ c1) (hr2 : Kd.C (Kd.int .i64) w A2 l2.length l2) (hc2 : l2.length ≤ c2) (hok : okC (N : Int) l1 l2 = true) :
    Calls Try.prog 32 #[.agg #[.int .i64 (N : Int), .slice A1 l1.length c1, .slice A2 l2.length c2]] w fun e w' => ∃ v0_ : Value, e = .returned (.tuple #[v0_, .int .i64 0]) ∧ Kd.R (Kd.int .i64) 3 w' w.heap.size (fun _ => True) v0_ (nI (whereN (toC N l1 l2) (fun x => x == 0))) ∧ Below w.heap.size w w' := by
  have HB := Aside0.mk (Below.refl w.heap.size w)
  have HO := Aside0.mk (fun W (hb : Below w.heap.size w W) => of_ok N l1 l2 A1 c1 A2 c2 W hok (Kd.C_below hr1 hb) hc1 (Kd.C_below hr2 hb) hc2)
  have HW := Aside0.mk (fun {W : World} {g : Nat} (hC : CircAt W g N l1 l2) => where_hidden hok hC)
  clear hr1 hc1 hr2 hc2 hok
  generalize nI (whereN (toC N l1 l2) (fun x => x == 0)) = R at *
  go_enter Try.func32, Try.ntmps32
  go_wp2_with (first | (go_at_call 54; (with_reducible refine (HO.out _ (below_alloc HB.out _)).mono ?_); rintro e w1 ⟨g, rfl, hC, hb⟩; have HC := Aside0.mk hC; have HB1 := Aside0.mk (below_step (below_alloc HB.out _) hb); clear hC hb) | (go_at_call 71; (with_reducible refine (HW.out HC.out).mono ?_); rintro e w2 ⟨v2, rfl, hR, hb⟩; have HR := Aside0.mk hR; have HB2 := Aside0.mk hb; clear hR hb))
  go_ret2
  exact ⟨_, rfl, R_low HR.out HB1.out.size, HB1.out.trans (HB2.out.mono HB1.out.size)⟩
theorem hidden_no (a0 : Int) (A1 : Option Addr) (c1 : Nat) (l1 : List S40) (A2 : Option Addr) (c2 : Nat) (l2 : List Int) (w : World) (hr1 : Kd.C k40 w A1 l1.length l1) (hc1 : l1.length ≤ c1) (hr2 : Kd.C (Kd.int .i64) w A2 l2.length l2) (hc2 : l2.length ≤ c2) (hok : okC a0 l1 l2 = false) :
    Calls Try.prog 32 #[.agg #[.int .i64 a0, .slice A1 l1.length c1, .slice A2 l2.length c2]] w fun e w' => ∃ v0_ : Value, e = .returned (.tuple #[v0_, .int .i64 2]) ∧ Kd.R (Kd.int .i64) 3 w' w.heap.size (fun _ => True) v0_ [] ∧ Below w.heap.size w w' := by
  have HB := Aside0.mk (Below.refl w.heap.size w)
  have HO := Aside0.mk (fun W (hb : Below w.heap.size w W) => of_no a0 l1 l2 A1 c1 A2 c2 W hok (Kd.C_below hr1 hb) hc1 (Kd.C_below hr2 hb) hc2)
  clear hr1 hc1 hr2 hc2 hok
  go_enter Try.func32, Try.ntmps32
  go_wp2_with (go_at_call 54; (with_reducible refine (HO.out _ (below_alloc HB.out _)).mono ?_); rintro e w1 ⟨rfl, hb⟩; have HB1 := Aside0.mk (below_step (below_alloc HB.out _) hb); clear hb)
  go_ret2
  exact ⟨_, rfl, Kd.R_nil _ _ _ _ _, HB1.out⟩
theorem gate_Hidden.calls (a0 : Int) (A1 : Option Addr) (c1 : Nat) (l1 : List S40) (A2 : Option Addr) (c2 : Nat) (l2 : List Int) (r1 : List Int) (r2 : Int) (w : World) (hr1 : Kd.C k40 w A1 l1.length l1) (hc1 : l1.length ≤ c1) (hr2 : Kd.C (Kd.int .i64) w A2 l2.length l2) (hc2 : l2.length ≤ c2) (h : gate_Hidden.f a0 l1 l2 = some (r1, r2)) :
    Calls Try.prog 32 #[.agg #[.int .i64 a0, .slice A1 l1.length c1, .slice A2 l2.length c2]] w fun e w' => ∃ v0_ : Value, e = .returned (.tuple #[v0_, .int .i64 r2]) ∧ Kd.R (Kd.int .i64) 3 w' w.heap.size (fun _ => True) v0_ r1 ∧ Below w.heap.size w w' := by
  unfold gate_Hidden.f at h
  injection h with h
  cases hok : okC a0 l1 l2 with
  | true =>
    obtain ⟨N, rfl⟩ := Int.eq_ofNat_of_zero_le (show 0 ≤ a0 by have := okC_small hok; omega)
    rw [if_pos hok, Int.toNat_natCast] at h
    injection h with h1 h2
    subst h1 h2
    exact hidden_ok N A1 c1 l1 A2 c2 l2 w hr1 hc1 hr2 hc2 hok
  | false =>
    rw [if_neg (by rw [hok]; decide)] at h
    injection h with h1 h2
    subst h1 h2
    exact hidden_no a0 A1 c1 l1 A2 c2 l2 w hr1 hc1 hr2 hc2 hok
theorem shown_ok (N V : Nat) (A1 : Option Addr) (c1 : Nat) (l1 : List S40) (A2 : Option Addr) (c2 : Nat) (l2 : List Int) (w : World) (hr1 : Kd.C k40 w A1 l1.length l1) (hc1 : l1.length ≤ c1) (hr2 : Kd.C (Kd.int .i64) w A2 l2.length l2) (hc2 : l2.length ≤ c2) (hok : okC (N : Int) l1 l2 = true) (hv : V < 2 ^ N) :
    Calls Try.prog 25 #[.agg #[.int .i64 (N : Int), .slice A1 l1.length c1, .slice A2 l2.length c2], .int .i64 (V : Int)] w fun e w' => ∃ v0_ : Value, e = .returned (.tuple #[v0_, .int .i64 0]) ∧ Kd.R (Kd.int .i64) 3 w' w.heap.size (fun _ => True) v0_ (nI (whereN (toC N l1 l2) (fun x => x.testBit V))) ∧ Below w.heap.size w w' := by
  have hN6 : N ≤ 6 := by have := okC_small hok; omega
  have hV := pow6 hN6
  obtain ⟨w0, hw0⟩ : ∃ w0, (w.alloc (.cells #[.int .i64 (N : Int), .slice A1 l1.length c1, .slice A2 l2.length c2] 25)).alloc (.cells #[.int .i64 (V : Int)] 3) = w0 := ⟨_, rfl⟩
  have HB := Aside0.mk (show Below w.heap.size w w0 by rw [← hw0]; exact below_alloc (below_alloc (Below.refl _ _) _) _)
  have hbx : w0.cell? ⟨w.heap.size + 1, 0, none⟩ = some (.int .i64 (V : Int)) := by
    rw [← hw0]
    have := cell_new (w.alloc (.cells #[.int .i64 (N : Int), .slice A1 l1.length c1, .slice A2 l2.length c2] 25)) #[.int .i64 (V : Int)] 3 0 rfl
    rwa [World.size_alloc] at this
  have HBx := Aside0.mk hbx
  have HW0 := Aside0.mk hw0
  have HO := Aside0.mk (of_ok N l1 l2 A1 c1 A2 c2 w0 hok (Kd.C_below hr1 HB.out) hc1 (Kd.C_below hr2 HB.out) hc2)
  have HVc := Aside0.mk (fun {W : World} {g : Nat} (hC : CircAt W g N l1 l2) => vectors_calls hC hN6)
  have HW := Aside0.mk (fun {W : World} {g : Nat} (hc : W.cell? ⟨w.heap.size + 1, 0, none⟩ = some (.int .i64 (V : Int))) (hC : CircAt W g N l1 l2) => where_shown V (w.heap.size + 1) (by omega) hc hok hC)
  have d1 : decide ((V : Int) < 0) = false := decide_eq_false (by omega)
  have d2 : decide (((2 ^ N : Nat) : Int) ≤ (V : Int)) = false := decide_eq_false (by omega)
  have d3 : decide (2 ^ N ≤ V) = false := decide_eq_false (by omega)
  generalize 2 ^ N = P at *
  clear hr1 hc1 hr2 hc2 hok hN6 hV hv hbx
  generalize nI (whereN (toC N l1 l2) (fun x => x.testBit V)) = R at *
  go_enter Try.func25, Try.ntmps25
  rw [← hw0] at *
  go_wp2_with (go_at_call 54; (with_reducible refine (HO.out).mono ?_); rintro e w1 ⟨g, rfl, hC, hb⟩; have HC := Aside0.mk hC; have hx1 := pw_cell_below hb HBx.out; have HB1 := Aside0.mk (HB.out.trans (hb.mono HB.out.size)); clear hC hb)
  (go_quiet (first | (go_at_call 70; exact Calls.quiet_of ((HVc.out (HC.out.drewN _)).mono (by rintro e w2 ⟨rfl, nd, rfl⟩; exact ⟨rfl, nd, rfl⟩)))))
  have HX1 := Aside0.mk (fun n => (show (w1.drewN n).cell? ⟨w.heap.size + 1, 0, none⟩ = some (.int .i64 (V : Int)) from hx1))
  clear hx1
  go_wp2_with (first | (go_at_call 71; (with_reducible refine (HW.out (HX1.out _) (HC.out.drewN _)).mono ?_); rintro e w2 ⟨v2, rfl, hR, hb⟩; have HR := Aside0.mk hR; have HB2 := Aside0.mk hb; clear hR hb))
  go_ret2
  exact ⟨_, rfl, R_low HR.out HB1.out.size, (pw_below_drewN HB1.out _).trans (HB2.out.mono HB1.out.size)⟩
theorem shown_neg (N : Nat) (v : Int) (A1 : Option Addr) (c1 : Nat) (l1 : List S40) (A2 : Option Addr) (c2 : Nat) (l2 : List Int) (w : World) (hr1 : Kd.C k40 w A1 l1.length l1) (hc1 : l1.length ≤ c1) (hr2 : Kd.C (Kd.int .i64) w A2 l2.length l2) (hc2 : l2.length ≤ c2) (hok : okC (N : Int) l1 l2 = true) (hv : v < 0) :
    Calls Try.prog 25 #[.agg #[.int .i64 (N : Int), .slice A1 l1.length c1, .slice A2 l2.length c2], .int .i64 v] w fun e w' => ∃ v0_ : Value, e = .returned (.tuple #[v0_, .int .i64 2]) ∧ Kd.R (Kd.int .i64) 3 w' w.heap.size (fun _ => True) v0_ [] ∧ Below w.heap.size w w' := by
  have hN6 : N ≤ 6 := by have := okC_small hok; omega
  obtain ⟨w0, hw0⟩ : ∃ w0, (w.alloc (.cells #[.int .i64 (N : Int), .slice A1 l1.length c1, .slice A2 l2.length c2] 25)).alloc (.cells #[.int .i64 v] 3) = w0 := ⟨_, rfl⟩
  have HB := Aside0.mk (show Below w.heap.size w w0 by rw [← hw0]; exact below_alloc (below_alloc (Below.refl _ _) _) _)
  have hbx : w0.cell? ⟨w.heap.size + 1, 0, none⟩ = some (.int .i64 v) := by
    rw [← hw0]
    have := cell_new (w.alloc (.cells #[.int .i64 (N : Int), .slice A1 l1.length c1, .slice A2 l2.length c2] 25)) #[.int .i64 v] 3 0 rfl
    rwa [World.size_alloc] at this
  have HBx := Aside0.mk hbx
  have HO := Aside0.mk (of_ok N l1 l2 A1 c1 A2 c2 w0 hok (Kd.C_below hr1 HB.out) hc1 (Kd.C_below hr2 HB.out) hc2)
  have HVc := Aside0.mk (fun {W : World} {g : Nat} (hC : CircAt W g N l1 l2) => vectors_calls hC hN6)
  have d1 : decide (v < 0) = true := decide_eq_true hv
  generalize 2 ^ N = P at *
  clear hr1 hc1 hr2 hc2 hok hN6 hv hbx
  go_enter Try.func25, Try.ntmps25
  rw [← hw0] at *
  go_wp2_with (go_at_call 54; (with_reducible refine (HO.out).mono ?_); rintro e w1 ⟨g, rfl, hC, hb⟩; have HC := Aside0.mk hC; have hx1 := pw_cell_below hb HBx.out; have HB1 := Aside0.mk (HB.out.trans (hb.mono HB.out.size)); clear hC hb)
  (go_quiet (first | (go_at_call 70; exact Calls.quiet_of ((HVc.out (HC.out.drewN _)).mono (by rintro e w2 ⟨rfl, nd, rfl⟩; exact ⟨rfl, nd, rfl⟩)))))
  go_wp2
  go_ret2
  exact ⟨_, rfl, Kd.R_nil _ _ _ _ _, pw_below_drewN HB1.out _⟩
theorem shown_big (N : Nat) (v : Int) (A1 : Option Addr) (c1 : Nat) (l1 : List S40) (A2 : Option Addr) (c2 : Nat) (l2 : List Int) (w : World) (hr1 : Kd.C k40 w A1 l1.length l1) (hc1 : l1.length ≤ c1) (hr2 : Kd.C (Kd.int .i64) w A2 l2.length l2) (hc2 : l2.length ≤ c2) (hok : okC (N : Int) l1 l2 = true) (hv : 0 ≤ v ∧ ((2 ^ N : Nat) : Int) ≤ v) :
    Calls Try.prog 25 #[.agg #[.int .i64 (N : Int), .slice A1 l1.length c1, .slice A2 l2.length c2], .int .i64 v] w fun e w' => ∃ v0_ : Value, e = .returned (.tuple #[v0_, .int .i64 2]) ∧ Kd.R (Kd.int .i64) 3 w' w.heap.size (fun _ => True) v0_ [] ∧ Below w.heap.size w w' := by
  have hN6 : N ≤ 6 := by have := okC_small hok; omega
  obtain ⟨w0, hw0⟩ : ∃ w0, (w.alloc (.cells #[.int .i64 (N : Int), .slice A1 l1.length c1, .slice A2 l2.length c2] 25)).alloc (.cells #[.int .i64 v] 3) = w0 := ⟨_, rfl⟩
  have HB := Aside0.mk (show Below w.heap.size w w0 by rw [← hw0]; exact below_alloc (below_alloc (Below.refl _ _) _) _)
  have hbx : w0.cell? ⟨w.heap.size + 1, 0, none⟩ = some (.int .i64 v) := by
    rw [← hw0]
    have := cell_new (w.alloc (.cells #[.int .i64 (N : Int), .slice A1 l1.length c1, .slice A2 l2.length c2] 25)) #[.int .i64 v] 3 0 rfl
    rwa [World.size_alloc] at this
  have HBx := Aside0.mk hbx
  have HO := Aside0.mk (of_ok N l1 l2 A1 c1 A2 c2 w0 hok (Kd.C_below hr1 HB.out) hc1 (Kd.C_below hr2 HB.out) hc2)
  have HVc := Aside0.mk (fun {W : World} {g : Nat} (hC : CircAt W g N l1 l2) => vectors_calls hC hN6)
  have d1 : decide (v < 0) = false := decide_eq_false (by omega)
  have d2 : decide (((2 ^ N : Nat) : Int) ≤ v) = true := decide_eq_true hv.2
  generalize 2 ^ N = P at *
  clear hr1 hc1 hr2 hc2 hok hN6 hv hbx
  go_enter Try.func25, Try.ntmps25
  rw [← hw0] at *
  go_wp2_with (go_at_call 54; (with_reducible refine (HO.out).mono ?_); rintro e w1 ⟨g, rfl, hC, hb⟩; have HC := Aside0.mk hC; have hx1 := pw_cell_below hb HBx.out; have HB1 := Aside0.mk (HB.out.trans (hb.mono HB.out.size)); clear hC hb)
  (go_quiet (first | (go_at_call 70; exact Calls.quiet_of ((HVc.out (HC.out.drewN _)).mono (by rintro e w2 ⟨rfl, nd, rfl⟩; exact ⟨rfl, nd, rfl⟩)))))
  go_wp2
  go_ret2
  exact ⟨_, rfl, Kd.R_nil _ _ _ _ _, pw_below_drewN HB1.out _⟩
theorem shown_no (a0 v : Int) (A1 : Option Addr) (c1 : Nat) (l1 : List S40) (A2 : Option Addr) (c2 : Nat) (l2 : List Int) (w : World) (hr1 : Kd.C k40 w A1 l1.length l1) (hc1 : l1.length ≤ c1) (hr2 : Kd.C (Kd.int .i64) w A2 l2.length l2) (hc2 : l2.length ≤ c2) (hok : okC a0 l1 l2 = false) :
    Calls Try.prog 25 #[.agg #[.int .i64 a0, .slice A1 l1.length c1, .slice A2 l2.length c2], .int .i64 v] w fun e w' => ∃ v0_ : Value, e = .returned (.tuple #[v0_, .int .i64 2]) ∧ Kd.R (Kd.int .i64) 3 w' w.heap.size (fun _ => True) v0_ [] ∧ Below w.heap.size w w' := by
  obtain ⟨w0, hw0⟩ : ∃ w0, (w.alloc (.cells #[.int .i64 a0, .slice A1 l1.length c1, .slice A2 l2.length c2] 25)).alloc (.cells #[.int .i64 v] 3) = w0 := ⟨_, rfl⟩
  have HB := Aside0.mk (show Below w.heap.size w w0 by rw [← hw0]; exact below_alloc (below_alloc (Below.refl _ _) _) _)
  have HO := Aside0.mk (of_no a0 l1 l2 A1 c1 A2 c2 w0 hok (Kd.C_below hr1 HB.out) hc1 (Kd.C_below hr2 HB.out) hc2)
  clear hr1 hc1 hr2 hc2 hok
  go_enter Try.func25, Try.ntmps25
  rw [← hw0] at *
  go_wp2_with (go_at_call 54; (with_reducible refine (HO.out).mono ?_); rintro e w1 ⟨rfl, hb⟩; have HB1 := Aside0.mk (HB.out.trans (hb.mono HB.out.size)); clear hb)
  (go_quiet (fail))
  go_wp2
  go_ret2
  exact ⟨_, rfl, Kd.R_nil _ _ _ _ _, pw_below_drewN HB1.out _⟩
theorem gate_Shown.calls (a0 : Int) (A1 : Option Addr) (c1 : Nat) (l1 : List S40) (A2 : Option Addr) (c2 : Nat) (l2 : List Int) (a1 : Int) (r1 : List Int) (r2 : Int) (w : World) (hr1 : Kd.C k40 w A1 l1.length l1) (hc1 : l1.length ≤ c1) (hr2 : Kd.C (Kd.int .i64) w A2 l2.length l2) (hc2 : l2.length ≤ c2) (h : gate_Shown.f a0 l1 l2 a1 = some (r1, r2)) :
    Calls Try.prog 25 #[.agg #[.int .i64 a0, .slice A1 l1.length c1, .slice A2 l2.length c2], .int .i64 a1] w fun e w' => ∃ v0_ : Value, e = .returned (.tuple #[v0_, .int .i64 r2]) ∧ Kd.R (Kd.int .i64) 3 w' w.heap.size (fun _ => True) v0_ r1 ∧ Below w.heap.size w w' := by
  unfold gate_Shown.f at h
  injection h with h
  cases hok : okC a0 l1 l2 with
  | true =>
    obtain ⟨N, rfl⟩ := Int.eq_ofNat_of_zero_le (show 0 ≤ a0 by have := okC_small hok; omega)
    by_cases hv : vecOk (N : Int) a1
    · rw [if_pos ⟨hok, hv⟩, Int.toNat_natCast] at h
      injection h with h1 h2
      subst h1 h2
      unfold vecOk at hv
      rw [Int.toNat_natCast] at hv
      obtain ⟨V, rfl⟩ := Int.eq_ofNat_of_zero_le hv.1
      rw [Int.toNat_natCast]
      exact shown_ok N V A1 c1 l1 A2 c2 l2 w hr1 hc1 hr2 hc2 hok (by omega)
    · rw [if_neg (fun e => hv e.2)] at h
      injection h with h1 h2
      subst h1 h2
      unfold vecOk at hv
      rw [Int.toNat_natCast] at hv
      by_cases h0 : a1 < 0
      · exact shown_neg N a1 A1 c1 l1 A2 c2 l2 w hr1 hc1 hr2 hc2 hok h0
      · exact shown_big N a1 A1 c1 l1 A2 c2 l2 w hr1 hc1 hr2 hc2 hok ⟨by omega, by omega⟩
  | false =>
    rw [if_neg (fun e => by rw [hok] at e; cases e.1)] at h
    injection h with h1 h2
    subst h1 h2
    exact shown_no a0 a1 A1 c1 l1 A2 c2 l2 w hr1 hc1 hr2 hc2 hok
end Go.Proofs.Ytelfalicickelaa.P
set_option linter.unusedSimpArgs false
set_option linter.unusedVariables false
namespace Go.Proofs.Ytelfalicickelaa.P
open Go.Lib Go.RowKit Go.Proofs.YtelfalicickelaaW.PrintWords Go.Proofs.YtelfalicickelaaW.PrintLast Go.Proofs.YtelfalicickelaaW.PrintMore Go.Proofs.Ytelfalicickelaa.Kit
def gate_Reply.f (a0 : Int) (l1 : List S40) (l2 : List Int) (v : Int) : Option (Int × Int) := some (if okC a0 l1 l2 = true ∧ vecOk a0 v then (((GT.reply (toC a0.toNat l1 l2) none v.toNat : Nat) : Int), 0) else (0, 2))
theorem reply_at {N : Nat} (l1 : List S40) (l2 : List Int) (hN : N ≤ 6) (hl : l2.length ≤ 4) (F : Option Nat) (V : Nat) (hv : V < 2 ^ N) : gate_reply.f 10 (nI (GT.outsW (toC N l1 l2) F)) (V : Int) = some ((GT.reply (toC N l1 l2) F V : Nat) : Int) := by
  have hp := pow6 hN
  have hlen : (GT.outsW (toC N l1 l2) F).length ≤ 4 := by rw [outsW_length]; show (List.map _ _).length ≤ 4; rw [List.length_map]; exact hl
  rw [reply_f _ (outsW_W64 hN l1 l2 F) (by omega) V (by omega) 10 (by omega), outsW_reply _ _ _ (show V < 2 ^ (toC N l1 l2).n from hv)]
set_option maxHeartbeats 8000000
set_option maxRecDepth 100000
theorem reply_ok (N V : Nat) (A1 : Option Addr) (c1 : Nat) (l1 : List S40) (A2 : Option Addr) (c2 : Nat) (l2 : List Int) (w : World) (hr1 : Kd.C k40 w A1 l1.length l1) (hc1 : l1.length ≤ c1) (hr2 : Kd.C (Kd.int .i64) w A2 l2.length l2) (hc2 : l2.length ≤ c2) (hok : okC (N : Int) l1 l2 = true) (hv : V < 2 ^ N) :
    Calls Try.prog 40 #[.agg #[.int .i64 (N : Int), .slice A1 l1.length c1, .slice A2 l2.length c2], .int .i64 (V : Int)] w fun e w' => e = .returned (.tuple #[.int .i64 ((GT.reply (toC N l1 l2) none V : Nat) : Int), .int .i64 0]) ∧ Below w.heap.size w w' := by
  have hs := okC_small hok
  have hN6 : N ≤ 6 := by omega
  have hF := reply_at l1 l2 hN6 hs.2.2.2.2 none V hv
  have HB := Aside0.mk (Below.refl w.heap.size w)
  have HO := Aside0.mk (fun W (hb : Below w.heap.size w W) => of_ok N l1 l2 A1 c1 A2 c2 W hok (Kd.C_below hr1 hb) hc1 (Kd.C_below hr2 hb) hc2)
  have HVc := Aside0.mk (fun {W : World} {g : Nat} (hC : CircAt W g N l1 l2) => vectors_calls hC hN6)
  have HOu := Aside0.mk (fun {W : World} {g : Nat} (hC : CircAt W g N l1 l2) => outs_calls none (fun q hq => by cases hq) hok hC)
  rw [show fI none = -1 from rfl] at HOu
  have d1 : decide ((V : Int) < 0) = false := decide_eq_false (by omega)
  have d2 : decide (((2 ^ N : Nat) : Int) ≤ (V : Int)) = false := decide_eq_false (by omega)
  have d3 : decide (2 ^ N ≤ V) = false := decide_eq_false (by omega)
  generalize 2 ^ N = P at *
  clear hr1 hc1 hr2 hc2 hok hN6 hv hs
  generalize nI (GT.outsW (toC N l1 l2) none) = R at *
  generalize GT.reply (toC N l1 l2) none V = r at *
  have HF := Aside0.mk hF
  clear hF
  go_enter Try.func40, Try.ntmps40
  go_wp2_with (first | (go_at_call 54; (with_reducible refine (HO.out _ (below_alloc HB.out _)).mono ?_); rintro e w1 ⟨g, rfl, hC, hb⟩; have HC := Aside0.mk hC; have HB1 := Aside0.mk (below_step (below_alloc HB.out _) hb); clear hC hb) | (go_at_call 70; (with_reducible refine (HVc.out HC.out).mono ?_); rintro e w2 ⟨rfl, ⟨nd, rfl⟩⟩) | (go_at_call 59; (with_reducible refine (HOu.out (HC.out.drewN _)).mono ?_); rintro e w3 ⟨v3, rfl, hR, hb⟩; obtain ⟨A3, c3, rfl⟩ := Kd.R_slice hR; have HR3 := Aside0.mk (Kd.R_reads' hR); have HB3 := Aside0.mk hb; clear hR hb) | (go_at_call 81; (with_reducible refine (gate_reply.calls 10 A3 c3 R (V : Int) (r : Int) _ HR3.out.2.2 HR3.out.2.1 HF.out).mono ?_); rintro e w4 ⟨rfl, ⟨nd4, rfl⟩⟩))
  go_ret2
  exact ⟨rfl, pw_below_drewN ((pw_below_drewN HB1.out _).trans (HB3.out.mono HB1.out.size)) _⟩
theorem reply_neg (N : Nat) (v : Int) (A1 : Option Addr) (c1 : Nat) (l1 : List S40) (A2 : Option Addr) (c2 : Nat) (l2 : List Int) (w : World) (hr1 : Kd.C k40 w A1 l1.length l1) (hc1 : l1.length ≤ c1) (hr2 : Kd.C (Kd.int .i64) w A2 l2.length l2) (hc2 : l2.length ≤ c2) (hok : okC (N : Int) l1 l2 = true) (hv : v < 0) :
    Calls Try.prog 40 #[.agg #[.int .i64 (N : Int), .slice A1 l1.length c1, .slice A2 l2.length c2], .int .i64 v] w fun e w' => e = .returned (.tuple #[.int .i64 0, .int .i64 2]) ∧ Below w.heap.size w w' := by
  have hN6 : N ≤ 6 := by have := okC_small hok; omega
  have HB := Aside0.mk (Below.refl w.heap.size w)
  have HO := Aside0.mk (fun W (hb : Below w.heap.size w W) => of_ok N l1 l2 A1 c1 A2 c2 W hok (Kd.C_below hr1 hb) hc1 (Kd.C_below hr2 hb) hc2)
  have HVc := Aside0.mk (fun {W : World} {g : Nat} (hC : CircAt W g N l1 l2) => vectors_calls hC hN6)
  have d1 : decide (v < 0) = true := decide_eq_true hv
  generalize 2 ^ N = P at *
  clear hr1 hc1 hr2 hc2 hok hN6 hv
  go_enter Try.func40, Try.ntmps40
  go_wp2_with (first | (go_at_call 54; (with_reducible refine (HO.out _ (below_alloc HB.out _)).mono ?_); rintro e w1 ⟨g, rfl, hC, hb⟩; have HC := Aside0.mk hC; have HB1 := Aside0.mk (below_step (below_alloc HB.out _) hb); clear hC hb) | (go_at_call 70; (with_reducible refine (HVc.out HC.out).mono ?_); rintro e w2 ⟨rfl, ⟨nd, rfl⟩⟩))
  go_ret2
  exact ⟨rfl, by repeat (first | exact HB1.out | apply pw_below_drewN)⟩
theorem reply_big (N : Nat) (v : Int) (A1 : Option Addr) (c1 : Nat) (l1 : List S40) (A2 : Option Addr) (c2 : Nat) (l2 : List Int) (w : World) (hr1 : Kd.C k40 w A1 l1.length l1) (hc1 : l1.length ≤ c1) (hr2 : Kd.C (Kd.int .i64) w A2 l2.length l2) (hc2 : l2.length ≤ c2) (hok : okC (N : Int) l1 l2 = true) (hv : 0 ≤ v ∧ ((2 ^ N : Nat) : Int) ≤ v) :
    Calls Try.prog 40 #[.agg #[.int .i64 (N : Int), .slice A1 l1.length c1, .slice A2 l2.length c2], .int .i64 v] w fun e w' => e = .returned (.tuple #[.int .i64 0, .int .i64 2]) ∧ Below w.heap.size w w' := by
  have hN6 : N ≤ 6 := by have := okC_small hok; omega
  have HB := Aside0.mk (Below.refl w.heap.size w)
  have HO := Aside0.mk (fun W (hb : Below w.heap.size w W) => of_ok N l1 l2 A1 c1 A2 c2 W hok (Kd.C_below hr1 hb) hc1 (Kd.C_below hr2 hb) hc2)
  have HVc := Aside0.mk (fun {W : World} {g : Nat} (hC : CircAt W g N l1 l2) => vectors_calls hC hN6)
  have d1 : decide (v < 0) = false := decide_eq_false (by omega)
  have d2 : decide (((2 ^ N : Nat) : Int) ≤ v) = true := decide_eq_true hv.2
  generalize 2 ^ N = P at *
  clear hr1 hc1 hr2 hc2 hok hN6 hv
  go_enter Try.func40, Try.ntmps40
  go_wp2_with (first | (go_at_call 54; (with_reducible refine (HO.out _ (below_alloc HB.out _)).mono ?_); rintro e w1 ⟨g, rfl, hC, hb⟩; have HC := Aside0.mk hC; have HB1 := Aside0.mk (below_step (below_alloc HB.out _) hb); clear hC hb) | (go_at_call 70; (with_reducible refine (HVc.out HC.out).mono ?_); rintro e w2 ⟨rfl, ⟨nd, rfl⟩⟩))
  go_ret2
  exact ⟨rfl, by repeat (first | exact HB1.out | apply pw_below_drewN)⟩
theorem reply_no (a0 v : Int) (A1 : Option Addr) (c1 : Nat) (l1 : List S40) (A2 : Option Addr) (c2 : Nat) (l2 : List Int) (w : World) (hr1 : Kd.C k40 w A1 l1.length l1) (hc1 : l1.length ≤ c1) (hr2 : Kd.C (Kd.int .i64) w A2 l2.length l2) (hc2 : l2.length ≤ c2) (hok : okC a0 l1 l2 = false) :
    Calls Try.prog 40 #[.agg #[.int .i64 a0, .slice A1 l1.length c1, .slice A2 l2.length c2], .int .i64 v] w fun e w' => e = .returned (.tuple #[.int .i64 0, .int .i64 2]) ∧ Below w.heap.size w w' := by
  have HB := Aside0.mk (Below.refl w.heap.size w)
  have HO := Aside0.mk (fun W (hb : Below w.heap.size w W) => of_no a0 l1 l2 A1 c1 A2 c2 W hok (Kd.C_below hr1 hb) hc1 (Kd.C_below hr2 hb) hc2)
  clear hr1 hc1 hr2 hc2 hok
  go_enter Try.func40, Try.ntmps40
  go_wp2_with (go_at_call 54; (with_reducible refine (HO.out _ (below_alloc HB.out _)).mono ?_); rintro e w1 ⟨rfl, hb⟩; have HB1 := Aside0.mk (below_step (below_alloc HB.out _) hb); clear hb)
  go_ret2
  exact ⟨rfl, HB1.out⟩
theorem gate_Reply.calls (a0 : Int) (A1 : Option Addr) (c1 : Nat) (l1 : List S40) (A2 : Option Addr) (c2 : Nat) (l2 : List Int) (a1 : Int) (r1 : Int) (r2 : Int) (w : World) (hr1 : Kd.C k40 w A1 l1.length l1) (hc1 : l1.length ≤ c1) (hr2 : Kd.C (Kd.int .i64) w A2 l2.length l2) (hc2 : l2.length ≤ c2) (h : gate_Reply.f a0 l1 l2 a1 = some (r1, r2)) :
    Calls Try.prog 40 #[.agg #[.int .i64 a0, .slice A1 l1.length c1, .slice A2 l2.length c2], .int .i64 a1] w fun e w' => e = .returned (.tuple #[.int .i64 r1, .int .i64 r2]) ∧ Below w.heap.size w w' := by
  unfold gate_Reply.f at h
  injection h with h
  cases hok : okC a0 l1 l2 with
  | true =>
    obtain ⟨N, rfl⟩ := Int.eq_ofNat_of_zero_le (show 0 ≤ a0 by have := okC_small hok; omega)
    by_cases hv : vecOk (N : Int) a1
    · rw [if_pos ⟨hok, hv⟩, Int.toNat_natCast] at h
      injection h with h1 h2
      subst h1 h2
      unfold vecOk at hv
      rw [Int.toNat_natCast] at hv
      obtain ⟨V, rfl⟩ := Int.eq_ofNat_of_zero_le hv.1
      rw [Int.toNat_natCast]
      exact reply_ok N V A1 c1 l1 A2 c2 l2 w hr1 hc1 hr2 hc2 hok (by omega)
    · rw [if_neg (fun e => hv e.2)] at h
      injection h with h1 h2
      subst h1 h2
      unfold vecOk at hv
      rw [Int.toNat_natCast] at hv
      by_cases h0 : a1 < 0
      · exact reply_neg N a1 A1 c1 l1 A2 c2 l2 w hr1 hc1 hr2 hc2 hok h0
      · exact reply_big N a1 A1 c1 l1 A2 c2 l2 w hr1 hc1 hr2 hc2 hok ⟨by omega, by omega⟩
  | false =>
    rw [if_neg (fun e => by rw [hok] at e; cases e.1)] at h
    injection h with h1 h2
    subst h1 h2
    exact reply_no a0 a1 A1 c1 l1 A2 c2 l2 w hr1 hc1 hr2 hc2 hok
end Go.Proofs.Ytelfalicickelaa.P
