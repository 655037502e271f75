/- Texts of this claim, merged by a program (shake.py): what the last theorems reach of QFewest, Pf67. -/
import Derived.Test.YtelfalicickelaaKB4
import Derived.Test.YtelfalicickelaaKB1
import Derived.Test.YtelfalicickelaaKB3
set_option linter.unusedSimpArgs false
set_option linter.unusedVariables false
namespace Go.Proofs.Ytelfalicickelaa.P
open Go.Lib Go.RowKit Go.Proofs.YtelfalicickelaaW.PrintWords Go.Proofs.YtelfalicickelaaW.PrintLast Go.Proofs.YtelfalicickelaaW.PrintMore Go.Proofs.Ytelfalicickelaa.Kit
theorem C_grown {k : IntKind} {W w1 : World} {row : Option Nat} {A : Option Addr} {n : Nat} {xs : List Int} (h : (Kd.int k).C W A n xs) (hg : W.grownBy w1 row) (hne : ∀ ad, A = some ad → some ad.block ≠ row) : (Kd.int k).C w1 A n xs := by
  refine ⟨h.1, h.2.1, fun hn => ?_⟩
  obtain ⟨ad, e, hc⟩ := h.2.2 hn
  refine ⟨ad, e, fun j p hp => ?_⟩
  obtain ⟨c, h1, h2, h3⟩ := hc j p hp
  refine ⟨c, h1, h2, fun i u hu => cell_grown hg (h3 i u hu) ?_⟩
  have hb : ∀ m, (ad.add m).block = ad.block := fun m => by
    unfold Addr.add
    split <;> rfl
  rw [hb]
  exact hne ad e
def FewInv (V : Nat) (R : List Nat) (v m : Nat) (L O : List Nat) : Prop := v ≤ V ∧ W64 L ∧ L.length ≤ 44 ∧ m ≤ 44 ∧ GT.Least V v L m ∧ O ++ GT.firsts (canA V) (V - v) v L m = R ∧ O.length ≤ v
theorem FewInv.done {V : Nat} {R : List Nat} {v m : Nat} {L O : List Nat} (h : FewInv V R v m L O) (hL : L = []) : O = R := by
  obtain ⟨h1, h2, h3, h4, h5, h6, h7⟩ := h
  have hm := h5.zero.1 hL
  subst hm
  have : ∀ d, GT.firsts (canA V) d v L 0 = [] := fun d => by cases d <;> rfl
  rw [this, List.append_nil] at h6
  exact h6
theorem FewInv.next {V : Nat} (hV : V ≤ 64) {R : List Nat} {v m : Nat} {L O : List Nat} (h : FewInv V R v m L O) (hL : L ≠ []) : v < V ∧ ∃ m', m = m' + 1 ∧ m' ≤ 44 ∧ (GT.canP pickM (aw V (v + 1)) m' (GT.without L v) = true → FewInv V R (v + 1) m' (GT.without L v) (O ++ [v])) ∧ (GT.canP pickM (aw V (v + 1)) m' (GT.without L v) = false → FewInv V R (v + 1) (m' + 1) L O) := by
  obtain ⟨h1, h2, h3, h4, h5, h6, h7⟩ := h
  have hm : m ≠ 0 := fun e => hL (h5.zero.2 e)
  have hv : v < V := by
    apply Classical.byContradiction
    intro hc
    exact hm (h5.last (by omega))
  obtain ⟨m', rfl⟩ : ∃ m', m = m' + 1 := ⟨m - 1, by omega⟩
  have hf : GT.firsts (canA V) (V - v) v L (m' + 1) = if canA V (v + 1) (GT.without L v) m' = true then v :: GT.firsts (canA V) (V - (v + 1)) (v + 1) (GT.without L v) m' else GT.firsts (canA V) (V - (v + 1)) (v + 1) L (m' + 1) := by
    rw [show V - v = (V - (v + 1)) + 1 by omega]; rfl
  rw [hf] at h6
  refine ⟨hv, m', rfl, by omega, fun hc => ?_, fun hc => ?_⟩
  · have hc' : canA V (v + 1) (GT.without L v) m' = true := hc
    rw [if_pos hc'] at h6
    exact ⟨by omega, without_W64 h2 v, Nat.le_trans (without_len L v) h3, by omega, h5.take hv ((canA_iff hV _ _ _).1 hc'), by rw [List.append_assoc]; exact h6, by simp only [List.length_append, List.length_singleton]; omega⟩
  · have hc' : canA V (v + 1) (GT.without L v) m' = false := hc
    rw [if_neg (by rw [hc']; decide)] at h6
    exact ⟨by omega, h2, h3, h4, h5.skip (fun h => by have := (canA_iff hV _ _ _).2 h; rw [hc'] at this; cases this), h6, by omega⟩
theorem shownW_len {N : Nat} (ls : List S40) (os : List Int) (h : N ≤ 6 ∧ ls.length ≤ 16) : (shownW (toC N ls os)).length ≤ 44 := by
  unfold shownW
  rw [List.length_map]
  exact shownF_len N ls os h
theorem shownW_W64 {N : Nat} (hN : N ≤ 6) (ls : List S40) (os : List Int) : W64 (shownW (toC N ls os)) := W64.of fun x hx => by
  unfold shownW at hx
  obtain ⟨f, _, rfl⟩ := List.mem_map.1 hx
  exact shows_lt64 hN ls os f
set_option maxHeartbeats 8000000
set_option maxRecDepth 100000
theorem fewest_ok (N : Nat) (A1 : Option Addr) (c1 : Nat) (l1 : List S40) (A2 : Option Addr) (c2 : Nat) (l2 : List Int) (w : World) (hr1 : Kd.C k40 w A1 l1.length l1) (hc1 : l1.length ≤ c1) (hr2 : Kd.C (Kd.int .i64) w A2 l2.length l2) (hc2 : l2.length ≤ c2) (hok : okC (N : Int) l1 l2 = true) :
    Calls Try.prog 20 #[.agg #[.int .i64 (N : Int), .slice A1 l1.length c1, .slice A2 l2.length c2]] w fun e w' => ∃ v0_ : Value, e = .returned (.tuple #[v0_, .int .i64 0]) ∧ Kd.R (Kd.int .i64) 3 w' w.heap.size (fun _ => True) v0_ (nI (fewR (toC N l1 l2))) ∧ Below w.heap.size w w' := by
  have hs := okC_small hok
  have hN6 : N ≤ 6 := by omega
  have hl16 : l1.length ≤ 16 := by omega
  have hV : 2 ^ N ≤ 64 := pow6 hN6
  have HB := Aside0.mk (Below.refl w.heap.size w)
  have HO := Aside0.mk (fun W (hb : Below w.heap.size w W) => of_ok N l1 l2 A1 c1 A2 c2 W hok (Kd.C_below hr1 hb) hc1 (Kd.C_below hr2 hb) hc2)
  have HSh := Aside0.mk (fun {W : World} {g : Nat} (hC : CircAt W g N l1 l2) => shown_calls hok hC)
  have HAl := Aside0.mk (fun {W : World} {g : Nat} (hC : CircAt W g N l1 l2) => all_calls hC hN6)
  simp only [show (2 ^ 2 ^ N - 1 : Nat) = aw (2 ^ N) 0 from rfl] at HAl
  have hlen := shownW_len l1 l2 ⟨hN6, hl16⟩ (N := N)
  have h64 := shownW_W64 hN6 l1 l2
  have hfl := fewL_ok (toC N l1 l2)
  have hll : (fewL (toC N l1 l2)).length ≤ 44 := Nat.le_trans (leanN_len _) hlen
  have hl64 : W64 (fewL (toC N l1 l2)) := leanN_W64 h64
  obtain ⟨f1, f2, f3, f4⟩ := few_spec hV hfl hll
  have HLn := Aside0.mk (lean_f (shownW (toC N l1 l2)) h64 (by omega) 10400 (Nat.le_refl _))
  rw [show leanN (shownW (toC N l1 l2)) = fewL (toC N l1 l2) from rfl] at HLn
  have hinv : FewInv (2 ^ N) (fewR (toC N l1 l2)) 0 (fewM (2 ^ N) (fewL (toC N l1 l2))) (fewL (toC N l1 l2)) [] := ⟨Nat.zero_le _, hl64, hll, f3, f4, rfl, Nat.le_refl _⟩
  clear hfl f4
  generalize fewM (2 ^ N) (fewL (toC N l1 l2)) = m0 at *
  generalize fewR (toC N l1 l2) = R at *
  generalize fewL (toC N l1 l2) = S at *
  generalize shownW (toC N l1 l2) = sW at *
  generalize 2 ^ N = P at *
  have HLs := Aside0.mk (And.intro hl64 hll)
  have HV := Aside0.mk hV
  have HF := Aside0.mk (And.intro f1 (And.intro f2 f3))
  have HI := Aside0.mk hinv
  clear hr1 hc1 hr2 hc2 hok hN6 hl16 hs hV hlen h64 hll hl64 f1 f2 f3 hinv
  go_enter Try.func20, Try.ntmps20
  go_wp2_with (first | (go_at_call 54; (with_reducible refine (HO.out _ (below_alloc HB.out _)).mono ?_); rintro e w1 ⟨g, rfl, hC, hb⟩; have HC1 := Aside0.mk hC; have HB1 := Aside0.mk (below_step (below_alloc HB.out _) hb); clear hC hb) | (go_at_call 60; (with_reducible refine (HSh.out HC1.out).mono ?_); rintro e w2 ⟨v5, v6, rfl, hR, _, ⟨A6, c6, e6⟩, hb⟩; subst e6; obtain ⟨A5, c5, rfl⟩ := Kd.R_slice hR; have HR5 := Aside0.mk (Kd.R_reads' hR); have HC2 := Aside0.mk (HC1.out.keep hb); have HB2 := Aside0.mk (HB1.out.trans (hb.mono HB1.out.size)); clear hR hb) | (go_at_call 61; (with_reducible refine (gate_lean.calls 10400 A5 c5 _ _ _ HR5.out.2.2 HR5.out.2.1 HLn.out).mono ?_); rintro e w3 ⟨v7, rfl, hR, hb⟩; obtain ⟨A7, c7, rfl⟩ := Kd.R_slice hR; have HR7 := Aside0.mk (Kd.R_reads' hR); have HC3 := Aside0.mk (HC2.out.keep hb); have HB3 := Aside0.mk (HB2.out.trans (hb.mono HB2.out.size)); clear hR hb))
  have HBw := Aside0.mk (Below.refl w3.heap.size w3)
  go_loopw [8] (fun v8 w' => ∃ i : Nat, v8 = .int .i64 (i : Int) ∧ Aside0 (i ≤ m0) ∧ Aside0 (Below w3.heap.size w3 w')) (fun v _ => m0 - (intOf v).toNat)
  case atStart => exact ⟨0, rfl, ⟨Nat.zero_le _⟩, HBw⟩
  case round =>
    clear HBw
    obtain ⟨i, rfl, Hi, HBw⟩ := hrel
    have HCr := Aside0.mk (HC3.out.keep HBw.out)
    have HRr := Aside0.mk (Kd.C_below HR7.out.2.2 HBw.out)
    by_cases him : i = m0
    · subst him
      have HCi := Aside0.mk (fun A c W hr => can_calls (aw P 0) (aw_lt HV.out 0) i (by have := HF.out.2.2; omega) S A c W HLs.out.1 (by have := HLs.out.2; omega) hr)
      have hb := HF.out.1
      unfold canA at hb
      simp only [hb] at HCi
      clear hb
      go_wp2_with (first | (go_at_call 63; (with_reducible refine (HAl.out HCr.out).mono ?_); rintro e w4 ⟨rfl, ⟨nd, rfl⟩⟩) | (go_at_call 62; (with_reducible refine (HCi.out A7 c7 _ (Kd.C_below HRr.out (pw_below_drewN (Below.refl _ _) nd))).mono ?_); rintro e w5 ⟨rfl, hb⟩; have HB5 := Aside0.mk (below_step (pw_below_drewN HBw.out nd) hb); have HC5 := Aside0.mk ((HCr.out.drewN nd).keep hb); have HR5n := Aside0.mk (Kd.C_below (Kd.C_below HRr.out (pw_below_drewN (Below.refl _ _) nd)) hb); clear hb) | (go_at_call 63; (with_reducible refine (HAl.out HC5.out).mono ?_); rintro e w6 ⟨rfl, ⟨nd6, rfl⟩⟩))
      have HBv := Aside0.mk (pw_below_drewN (Below.refl w5.heap.size w5) nd6)
      have HRv := Aside0.mk (Kd.C_below HR5n.out (pw_below_drewN (Below.refl _ _) nd6))
      clear HCi
      go_loopw [7, 8, 9, 10, 11] (fun v7 v8 v9 v10 v11 w' => ∃ (v m : Nat) (L : List Nat) (A : Option Addr) (c : Nat) (O : List Nat), v7 = .slice A (nI L).length c ∧ v8 = .int .i64 (m : Int) ∧ v10 = .int .u64 (aw P v : Int) ∧ v11 = .int .i64 (v : Int) ∧ Aside0 (FewInv P R v m L O) ∧ Aside0 (Kd.C (Kd.int .u64) w' A (nI L).length (nI L)) ∧ Aside0 (Kd.R (Kd.int .i64) 3 w' w5.heap.size (fun _ => True) v9 (nI O)) ∧ Aside0 (Below w5.heap.size w5 w')) (fun _ _ _ _ v _ => P - (intOf v).toNat)
      case atStart => exact ⟨0, i, S, A7, c7, [], rfl, rfl, rfl, rfl, HI, HRv, ⟨Kd.R_nil _ _ _ _ _⟩, HBv⟩
      case round =>
        clear HBv HRv
        obtain ⟨v, m, L, A, c, O, rfl, rfl, rfl, rfl, HJ, HC, HR, HBx⟩ := hrel
        have hnl := nI_length L
        by_cases h0 : L.length = 0
        · have HD := Aside0.mk (HJ.out.done (List.length_eq_zero_iff.1 h0))
          have hn0 : (nI L).length = 0 := by omega
          rw [hn0]
          clear h0 hnl hn0
          go_wp2
          go_ret2
          refine ⟨_, rfl, ?_, HB3.out.trans (Below.mono (HB5.out.trans (HBx.out.mono HB5.out.size)) HB3.out.size)⟩
          have h := R_low HR.out (Nat.le_trans HB3.out.size HB5.out.size)
          rw [HD.out] at h
          exact h
        · obtain ⟨hv, m', rfl, hm', hT, hF⟩ := HJ.out.next HV.out (fun e => h0 (by rw [e]; rfl))
          have HLL := Aside0.mk (And.intro HJ.out.2.1 HJ.out.2.2.1)
          have Hv := Aside0.mk hv
          have Hm := Aside0.mk hm'
          have HWo := Aside0.mk (fun W (hb : Below wr.heap.size wr W) => without_calls2 A c L v W (by have := HV.out; omega) HLL.out.1 (by omega) (by have := HLL.out.2; omega) (Kd.C_below HC.out hb))
          have HCi := Aside0.mk (fun A c W hr => can_calls (aw P (v + 1)) (aw_lt HV.out (v + 1)) m' (by omega) (GT.without L v) A c W (without_W64 HLL.out.1 v) (Nat.le_trans (without_len L v) (by have := HLL.out.2; omega)) hr)
          obtain ⟨b, hb⟩ : ∃ b, GT.canP pickM (aw P (v + 1)) m' (GT.without L v) = b := ⟨_, rfl⟩
          simp only [hb] at HCi hT hF
          have HTF := Aside0.mk (And.intro hT hF)
          have hsh : IntKind.u64.wrap ((2 : Int) ^ min v 64) = ((2 ^ v : Nat) : Int) := by
            rw [Nat.min_eq_left (by have := HV.out; omega), show (2 : Int) ^ v = ((2 ^ v : Nat) : Int) by simp, u64w (pow_lt64 (by have := HV.out; omega))]
          have han := andnu (aw P v) (2 ^ v) (aw_lt HV.out v) (pow_lt64 (by have := HV.out; omega))
          rw [← hsh] at han
          have HAn := Aside0.mk (show Go.bits .andNot .u64 (aw P v : Int) (IntKind.u64.wrap ((2 : Int) ^ min v 64)) = ((aw P (v + 1) : Nat) : Int) from han)
          have e1 : decide (((nI L).length : Int) > 0) = true := decide_eq_true (by omega)
          have e2 : decide (0 < (nI L).length) = true := decide_eq_true (by omega)
          have e4 : decide ((0 : Int) < ((nI L).length : Int)) = true := decide_eq_true (by omega)
          have HLen := Aside0.mk (show (nI O).length < 17592186044416 by rw [nI_length]; have := HJ.out.2.2.2.2.2.2; have := HV.out; omega)
          have HWv := Aside0.mk (show wrap64 ((v : Int) + 1) = ((v + 1 : Nat) : Int) by rw [w64 (by omega) (by have := HV.out; omega)]; omega)
          have HWi := Aside0.mk (show wrap64 (m' : Int) = (m' : Int) by rw [w64 (by omega) (by omega)])
          have HBr := Aside0.mk (Below.refl wr.heap.size wr)
          have e3 : (nI O) ++ [(v : Int)] = nI (O ++ [v]) := by rw [nI_snoc]
          have HTK := Aside0.mk e3
          have HOb := Aside0.mk (fun k hk => ((Kd.R_bound HR.out).1 k hk).2.2.1)
          clear hb hT hF hv hm' h0 hnl hsh han e3 HJ
          generalize hX : nI (GT.without L v) = X at *
          have HX := Aside0.mk hX
          clear hX
          cases b with
          | true =>
            go_wp2_with (first | (go_at_call 64; (with_reducible refine (HWo.out _ HBr.out).mono ?_); rintro e w7 ⟨A7b, c7b, rfl, hr7, hl7, hbk7, hb7⟩; have HK7 := Aside0.mk hbk7; have HR7b := Aside0.mk hr7; have HB7 := Aside0.mk hb7; clear hr7 hl7 hbk7 hb7) | (go_at_call 62; (try rw [HAn.out]); (try rw [HWi.out]); (with_reducible refine (HCi.out _ _ _ HR7b.out).mono ?_); rintro e w8 ⟨rfl, hb8⟩; have HR8 := Aside0.mk (Kd.C_below HR7b.out hb8); have HB8 := Aside0.mk (HB7.out.trans (hb8.mono HB7.out.size)); have HBx8 := Aside0.mk (HBx.out.trans (HB8.out.mono HBx.out.size)); have HO8 := Aside0.mk (Kd.R_below HR.out HB8.out); clear hb8) | ((with_reducible refine gate_builtin (b := .append) (xs := #[.tmp 51, .tmp 53]) rfl ?_); at_builtin; refine Kd.R_append (Kd.int .i64) (w0 := w5) w5.heap.size rfl (.tmp 51) (.tmp 53) 23 3 (.int .i64 0) 8 rfl Try.underlying23 info3 rfl (by decide) (by omega) _ (nI O) (v : Int) [.int .i64 (v : Int)] (fun _ => True) (fun _ => False) rfl rfl ?aP (fun _ hk => hk.elim) ?aF ?aO ?aB ?aS ?aL ?_; (case aP => exact rfl); (case aB => exact (by repeat (first | (with_reducible first | exact HBx8.out | apply below_alloc | apply pw_below_drewN | apply below_drew1) | exact HBx8.out))); (case aF => exact (fun _ _ => trivial)); (case aO => exact (by (with_reducible repeat (first | apply Kd.R_alloc | apply Kd.R_drewN | apply Kd.R_drew)); exact HO8.out)); (case aS => exact (below_size (by repeat (first | (with_reducible first | exact HBx8.out | apply below_alloc | apply pw_below_drewN | apply below_drew1) | exact HBx8.out)))); (case aL => have := HLen.out; omega); intro v9n w9 ho hb hg hat; rw [HTK.out] at ho; have HR9 := Aside0.mk ho; have HB9 := Aside0.mk hb; have HC9 := Aside0.mk (C_grown HR8.out hg (fun ad e => fun hh => by have h1 := HK7.out ad e; have h2 := HOb.out _ hh.symm; omega)); clear ho hb hg hat))
            refine ⟨⟨v + 1, m', GT.without L v, A7b, c7b, O ++ [v], by rw [HX.out], by rw [HWi.out], rfl, by rw [HWv.out], ⟨HTF.out.1 (by first | trivial | rfl)⟩, by rw [HX.out]; exact HC9, HR9, HB9⟩, ?_⟩
            · rw [HWv.out]; have := Hv.out; simp [intOf]; omega
          | false =>
            go_wp2_with (first | (go_at_call 64; (with_reducible refine (HWo.out _ HBr.out).mono ?_); rintro e w7 ⟨A7b, c7b, rfl, hr7, hl7, hbk7, hb7⟩; have HK7 := Aside0.mk hbk7; have HR7b := Aside0.mk hr7; have HB7 := Aside0.mk hb7; clear hr7 hl7 hbk7 hb7) | (go_at_call 62; (try rw [HAn.out]); (try rw [HWi.out]); (with_reducible refine (HCi.out _ _ _ HR7b.out).mono ?_); rintro e w8 ⟨rfl, hb8⟩; have HR8 := Aside0.mk (Kd.C_below HR7b.out hb8); have HB8 := Aside0.mk (HB7.out.trans (hb8.mono HB7.out.size)); have HBx8 := Aside0.mk (HBx.out.trans (HB8.out.mono HBx.out.size)); have HO8 := Aside0.mk (Kd.R_below HR.out HB8.out); clear hb8))
            refine ⟨⟨v + 1, m' + 1, L, A, c, O, rfl, rfl, by first | rfl | rw [HAn.out], by rw [HWv.out], ⟨HTF.out.2 (by first | trivial | rfl)⟩, ⟨Kd.C_below HC.out HB8.out⟩, HO8, HBx8⟩, ?_⟩
            · rw [HWv.out]; have := Hv.out; simp [intOf]; omega
    · have Him := Aside0.mk (show i < m0 by have := Hi.out; omega)
      have HCi := Aside0.mk (fun A c W hr => can_calls (aw P 0) (aw_lt HV.out 0) i (by have := HF.out.2.2; have := Him.out; omega) S A c W HLs.out.1 (by have := HLs.out.2; omega) hr)
      have hb := HF.out.2.1 i Him.out
      unfold canA at hb
      simp only [hb] at HCi
      have HWi := Aside0.mk (show wrap64 ((i : Int) + 1) = ((i + 1 : Nat) : Int) by rw [w64 (by omega) (by have := HF.out.2.2; have := Him.out; omega)]; omega)
      clear hb him
      go_wp2_with (first | (go_at_call 63; (with_reducible refine (HAl.out HCr.out).mono ?_); rintro e w4 ⟨rfl, ⟨nd, rfl⟩⟩) | (go_at_call 62; (with_reducible refine (HCi.out A7 c7 _ (Kd.C_below HRr.out (pw_below_drewN (Below.refl _ _) nd))).mono ?_); rintro e w5 ⟨rfl, hb⟩; have HB5 := Aside0.mk (below_step (pw_below_drewN HBw.out nd) hb); clear hb))
      go_roundw
      case rel => exact ⟨i + 1, by rw [w64 (by omega) (by have := HF.out.2.2; have := Him.out; omega)]; rfl, ⟨Him.out⟩, HB5⟩
      case measure => rw [w64 (by omega) (by have := HF.out.2.2; have := Him.out; omega)]; have := Him.out; simp [intOf]; omega
theorem fewest_no (n : Int) (A1 : Option Addr) (c1 : Nat) (l1 : List S40) (A2 : Option Addr) (c2 : Nat) (l2 : List Int) (w : World) (hr1 : Kd.C k40 w A1 l1.length l1) (hc1 : l1.length ≤ c1) (hr2 : Kd.C (Kd.int .i64) w A2 l2.length l2) (hc2 : l2.length ≤ c2) (hok : okC n l1 l2 = false) :
    Calls Try.prog 20 #[.agg #[.int .i64 n, .slice A1 l1.length c1, .slice A2 l2.length c2]] w fun e w' => e = .returned (.tuple #[.slice none 0 0, .int .i64 2]) ∧ Below w.heap.size w w' := by
  have HB := Aside0.mk (Below.refl w.heap.size w)
  have HO := Aside0.mk (fun W (hb : Below w.heap.size w W) => of_no n l1 l2 A1 c1 A2 c2 W hok (Kd.C_below hr1 hb) hc1 (Kd.C_below hr2 hb) hc2)
  clear hr1 hc1 hr2 hc2 hok
  go_enter Try.func20, Try.ntmps20
  go_wp2_with (first | (go_at_call 54; (with_reducible refine (HO.out _ (below_alloc HB.out _)).mono ?_); rintro e w1 ⟨rfl, hb⟩; have HB1 := Aside0.mk (below_step (below_alloc HB.out _) hb); clear hb))
  go_ret2
  exact ⟨rfl, HB1.out⟩
theorem gate_Fewest.calls (a0 : Int) (A1 : Option Addr) (c1 : Nat) (l1 : List S40) (A2 : Option Addr) (c2 : Nat) (l2 : List Int) (r1 : List Int) (r2 : Int) (w : World) (hr1 : Kd.C k40 w A1 l1.length l1) (hc1 : l1.length ≤ c1) (hr2 : Kd.C (Kd.int .i64) w A2 l2.length l2) (hc2 : l2.length ≤ c2) (h : gate_Fewest.f a0 l1 l2 = some (r1, r2)) :
    Calls Try.prog 20 #[.agg #[.int .i64 a0, .slice A1 l1.length c1, .slice A2 l2.length c2]] w fun e w' => ∃ v0_ : Value, e = .returned (.tuple #[v0_, .int .i64 r2]) ∧ Kd.R (Kd.int .i64) 3 w' w.heap.size (fun _ => True) v0_ r1 ∧ Below w.heap.size w w' := by
  unfold gate_Fewest.f at h
  by_cases hok : okC a0 l1 l2 = true
  · rw [if_pos hok] at h
    have hs := okC_small hok
    obtain ⟨N, rfl⟩ := Int.eq_ofNat_of_zero_le (show 0 ≤ a0 by omega)
    rw [Int.toNat_natCast] at h
    cases h
    refine (fewest_ok N A1 c1 l1 A2 c2 l2 w hr1 hc1 hr2 hc2 hok).mono ?_
    rintro e w' ⟨v0_, rfl, hR, hb⟩
    exact ⟨v0_, rfl, hR, hb⟩
  · rw [if_neg hok] at h
    cases h
    refine (fewest_no a0 A1 c1 l1 A2 c2 l2 w hr1 hc1 hr2 hc2 (by simpa using hok)).mono ?_
    rintro e w' ⟨rfl, hb⟩
    exact ⟨_, rfl, Kd.R_nil _ _ _ _ _, hb⟩
end Go.Proofs.Ytelfalicickelaa.P
namespace Go.Proofs.Ytelfalicickelaa.P
open Go.RowKit Go.Proofs.YtelfalicickelaaW.PrintWords Go.Proofs.YtelfalicickelaaW.PrintLast Go.Proofs.YtelfalicickelaaW.PrintMore
attribute [local go_sem] max2_int max_two
set_option linter.unusedVariables false
set_option linter.unusedSimpArgs false
mutual
def gate_graph_most.l0 : Nat → List Int → Int → Int → Int → List Int → Int → Int → Option (Int)
  | 0, _, _, _, _, _, _, _ => none
  | k + 1, x0, x1, x5, x6, x13, x14, x15 => if x15 < x14 then (if 0 ≤ x15 then (if x15 < (x13.length : Int) then (if 0 ≤ (rd x13 x15) then (if (rd x13 x15) < (x0.length : Int) then ((gate_word_many.f (Go.bits .and .u64 (rd x0 (rd x13 x15)) x1)).bind fun t119 => (if t119 ≤ 1 then ((gate_graph_most.f k x0 (Go.bits .andNot .u64 (Go.bits .andNot .u64 x1 (rd x0 (rd x13 x15))) (shl .u64 1 (rd x13 x15)))).bind fun t121 => (some (wrap64 (1 + t121)))) else (if t119 > x6 then (gate_graph_most.l0 k x0 x1 (rd x13 x15) t119 x13 x14 (wrap64 (x15 + 1))) else (gate_graph_most.l0 k x0 x1 x5 x6 x13 x14 (wrap64 (x15 + 1)))))) else (none)) else (none)) else (none)) else (none)) else (if 0 ≤ x5 then (if x5 < (x0.length : Int) then ((gate_graph_most.f k x0 (Go.bits .andNot .u64 (Go.bits .andNot .u64 x1 (rd x0 x5)) (shl .u64 1 x5))).bind fun t115 => ((gate_graph_most.f k x0 (Go.bits .andNot .u64 x1 (shl .u64 1 x5))).bind fun t116 => (some (mx (wrap64 (1 + t115)) t116)))) else (none)) else (none))
def gate_graph_most.f : Nat → List Int → Int → Option (Int)
  | 0, _, _ => none
  | k + 1, l0, a1 => if a1 = 0 then (some 0) else ((gate_members.f k a1).bind fun t111 => (gate_graph_most.l0 k l0 a1 (-1) (-1) t111 (t111.length : Int) 0))
end
def gate_graph_most.T9 : Bool × List (List Nat × List Nat) := (true, [([], []), ([], []), ([], []), ([], []), ([2, 3], [2, 3]), ([4], [4]), ([1, 5], [1, 5]), ([], []), ([7], [7]), ([6, 8], [6, 8]), ([0, 9], [0, 9]), ([10], [10]), ([11, 10, 0, 1, 2, 3, 4, 5, 6, 7, 8, 9, 10, 11], [11])])
def gate_graph_most.B9 : List Nat := [0, 0, 0, 0, 12, 28, 62, 0, 128, 510, 1023, 2047, 4095]
theorem gate_graph_most.tab9 : rtab .any (opsOf Try.f67 9) = gate_graph_most.T9 := by kernel_rfl
theorem gate_graph_most.bits9 : waitsOk gate_graph_most.T9.2 gate_graph_most.B9 = true := by kernel_rfl
def gate_graph_most.T13 : Bool × List (List Nat × List Nat) := (true, [([], []), ([], []), ([], []), ([], []), ([2, 3], [2, 3]), ([4], [4]), ([1, 5], [1, 5]), ([], []), ([7], [7]), ([6, 8], [6, 8]), ([0, 9], [0, 9]), ([10], [10]), ([], []), ([], []), ([], []), ([14], [14]), ([13, 15], [13, 15]), ([12, 16, 10], [12, 16]), ([11, 17], [11, 17]), ([18, 17, 0, 1, 2, 3, 4, 5, 6, 7, 8, 9, 10, 11, 12, 13, 14, 15, 16, 17, 18], [18])])
def gate_graph_most.B13 : List Nat := [0, 0, 0, 0, 12, 28, 62, 0, 128, 510, 1023, 2047, 0, 0, 0, 16384, 57344, 129023, 262143, 524287]
theorem gate_graph_most.tab13 : rtab .any (opsOf Try.f67 13) = gate_graph_most.T13 := by kernel_rfl
theorem gate_graph_most.bits13 : waitsOk gate_graph_most.T13.2 gate_graph_most.B13 = true := by kernel_rfl
set_option maxHeartbeats 8000000 in
set_option maxRecDepth 100000 in
theorem gate_graph_most.calls (k : Nat) : ∀ (A0 : Option Addr) (c0 : Nat) (l0 : List Int) (a1 : Int) (r : Int) (w : World) (hr0 : Kd.C (Kd.int .u64) w A0 l0.length l0) (hc0 : l0.length ≤ c0) (h : gate_graph_most.f k l0 a1 = some r),
    Calls Try.prog 67 #[.slice A0 l0.length c0, .int .u64 a1] w fun e w' => e = .returned (.int .i64 r) ∧ Below w.heap.size w w' := by
  induction k using Nat.strongRecOn with
  | _ k ih =>
  intro A0 c0 l0 a1 r w hr0 hc0 h
  cases k with
  | zero => exact absurd h (by simp [gate_graph_most.f])
  | succ k =>
  simp only [gate_graph_most.f] at h
  have HR0 := Aside0.mk hr0
  have HC0 := Aside0.mk hc0
  clear hr0 hc0
  have HB := Aside0.mk (Below.refl w.heap.size w)
  have H : (if a1 = 0 then (some 0) else ((gate_members.f k a1).bind fun t111 => (gate_graph_most.l0 k l0 a1 (-1) (-1) t111 (t111.length : Int) 0))) = some r := h
  clear h
  by_cases c3 : a1 = 0
  · rw [if_pos c3] at H
    have c3b0 : (a1 == 0) = true := beq_iff_eq.mpr c3
    have c3b1 : (a1 != 0) = false := bne_eq_false_iff_eq.mpr c3
    clear c3
    obtain rfl := Option.some.inj H
    go_enter Try.func67, Try.ntmps67
    go_wp2
    go_ret
    exact ⟨by first | rfl | (simp [errW_none, errW_some] <;> rfl) | (simp [*, errW_none, errW_some] <;> rfl), by repeat (first | (with_reducible first | exact HB.out | apply below_alloc | apply pw_below_drewN | apply below_drew1) | exact HB.out)⟩
  · rw [if_neg c3] at H
    have c3b0 : (a1 == 0) = false := beq_eq_false_iff_ne.mpr c3
    have c3b1 : (a1 != 0) = true := bne_iff_ne.mpr c3
    replace H := Option.bind_eq_some_iff.mp H
    obtain ⟨t111, A40, H⟩ := H
    replace H : (gate_graph_most.l0 k l0 a1 (-1) (-1) t111 (t111.length : Int) 0) = some r := H
    have A4 := Aside0.mk A40
    clear A40
    have H' := Aside0.mk H
    clear H
    go_enter Try.func67, Try.ntmps67
    go_wp2_with (first | ((with_reducible refine gate_callee (f := 68) rfl ?_); refine goesL_ (some 13) rfl rfl Try.func68 (by kernel_rfl) rfl #[.int .u64 a1] rfl (by (try simp only [List.map_toArray, List.map_cons, List.map_nil]); first | done | rfl | (simp only [List.length_drop, List.length_take]; rfl)) ?_; (with_reducible refine (gate_members.calls k a1 t111 _ A4.out).mono ?_); rintro e w5 ⟨v112, rfl, ho0, hb⟩; refine ⟨_, rfl, ?_⟩; have n0_ := Aside0.mk (Kd.R_lower ho0 (below_size (by repeat (first | (with_reducible first | exact HB.out | apply below_alloc | apply pw_below_drewN | apply below_drew1) | exact HB.out)))); have n1_ := Aside0.mk (below_step (by repeat (first | (with_reducible first | exact HB.out | apply below_alloc | apply pw_below_drewN | apply below_drew1) | exact HB.out)) hb); clear HB; have HO113 := n0_; have HB := n1_; clear n0_ n1_; (try clear hb); (try clear hb2); (try clear hk); (try clear hi); (try clear ho0); obtain ⟨Ao6, co6, eo6⟩ := Kd.R_slice HO113.out; subst eo6))
    go_loopg [5, 6, 15] k (fun kq v5 v6 v15 w' => ∃ (x5_1 : Int) (x6_1 : Int) (x15_1 : Int), v5 = .int .i64 x5_1 ∧ v6 = .int .i64 x6_1 ∧ v15 = .int .i64 x15_1 ∧ Aside0 (gate_graph_most.l0 kq l0 a1 x5_1 x6_1 t111 (t111.length : Int) x15_1 = some r) ∧ Aside0 (kq ≤ k) ∧ Aside0 (Kd.R (Kd.int .i64) 3 w' w.heap.size (fun _ => True) (.slice Ao6 t111.length co6) t111) ∧ Aside0 (Below w.heap.size w w'))
    case atStart => exact ⟨((-1)), ((-1)), (0), (by first | rfl | (simp; done) | (simp [*]; done)), (by first | rfl | (simp; done) | (simp [*]; done)), (by first | rfl | (simp; done) | (simp [*]; done)), H', ⟨Nat.le_refl _⟩, ⟨by (with_reducible repeat (first | apply Kd.R_alloc | apply Kd.R_drewN | apply Kd.R_drew)); first | exact HO113.out | exact Kd.R_mono HO113.out (fun k_ h_ => ne_own_len h_)⟩, ⟨by repeat (first | (with_reducible first | exact HB.out | apply below_alloc | apply pw_below_drewN | apply below_drew1) | exact HB.out)⟩⟩
    case round =>
      clear H'
      try clear p2
      try clear c3
      try clear c3b0
      try clear c3b1
      try clear c6
      obtain ⟨x5_1, x6_1, x15_1, rfl, rfl, rfl, HA, HK1, HO_13, HB⟩ := hrel
      cases gk with
      | zero => exact absurd HA.out (by simp [gate_graph_most.l0])
      | succ k1 =>
        have H := HA.out
        clear HA
        simp only [gate_graph_most.l0] at H
        by_cases c7 : x15_1 < (t111.length : Int)
        · rw [if_pos c7] at H
          have c7b0 : decide (x15_1 < (t111.length : Int)) = true := decide_eq_true c7
          clear c7
          by_cases c8 : 0 ≤ x15_1
          · rw [if_pos c8] at H
            have c8b0 : decide (0 ≤ x15_1) = true := decide_eq_true c8
            clear c8
            by_cases c9 : x15_1 < (t111.length : Int)
            · rw [if_pos c9] at H
              have c9b0 : decide (x15_1 < (t111.length : Int)) = true := decide_eq_true c9
              clear c9
              by_cases c10 : 0 ≤ (rd t111 x15_1)
              · rw [if_pos c10] at H
                have c10b0 : decide (0 ≤ (rd t111 x15_1)) = true := decide_eq_true c10
                clear c10
                by_cases c11 : (rd t111 x15_1) < (l0.length : Int)
                · rw [if_pos c11] at H
                  have c11b0 : decide ((rd t111 x15_1) < (l0.length : Int)) = true := decide_eq_true c11
                  clear c11
                  replace H := Option.bind_eq_some_iff.mp H
                  obtain ⟨t119, A120, H⟩ := H
                  replace H : (if t119 ≤ 1 then ((gate_graph_most.f k1 l0 (Go.bits .andNot .u64 (Go.bits .andNot .u64 a1 (rd l0 (rd t111 x15_1))) (shl .u64 1 (rd t111 x15_1)))).bind fun t121 => (some (wrap64 (1 + t121)))) else (if t119 > x6_1 then (gate_graph_most.l0 k1 l0 a1 (rd t111 x15_1) t119 t111 (t111.length : Int) (wrap64 (x15_1 + 1))) else (gate_graph_most.l0 k1 l0 a1 x5_1 x6_1 t111 (t111.length : Int) (wrap64 (x15_1 + 1))))) = some r := H
                  have A12 := Aside0.mk A120
                  clear A120
                  by_cases c13 : t119 ≤ 1
                  · rw [if_pos c13] at H
                    have c13b0 : decide (t119 ≤ 1) = true := decide_eq_true c13
                    clear c13
                    have c14b0 := eq_true (of_decide_eq_true (by first | (with_reducible assumption) | assumption) : 0 ≤ (rd t111 x15_1))
                    obtain ⟨ji15, hji15⟩ : ∃ j_ : Int, (shl .u64 1 (rd t111 x15_1)) = j_ := ⟨_, rfl⟩
                    replace H : ((gate_graph_most.f k1 l0 (Go.bits .andNot .u64 (Go.bits .andNot .u64 a1 (rd l0 (rd t111 x15_1))) (ji15))).bind fun t121 => (some (wrap64 (1 + t121)))) = some r := by first | (rw [hji15] at H; exact H) | (simp only [hji15] at H ⊢; exact H)
                    (try rw [hji15] at A12)
                    have hji15_ : (IntKind.u64.wrap (1 * 2 ^ min (rd t111 x15_1).toNat 64)) = ji15 := hji15
                    have hji15z : (rd t111 x15_1) ≤ 64 → (IntKind.u64.wrap (1 * 2 ^ (rd t111 x15_1).toNat)) = ji15 := shl_small hji15
                    have hji15u : (IntKind.u64.wrap (2 ^ min (rd t111 x15_1).toNat 64)) = ji15 := by have h_ := hji15_; rw [Int.one_mul] at h_; exact h_
                    have hji15v : (rd t111 x15_1) ≤ 64 → (IntKind.u64.wrap (2 ^ (rd t111 x15_1).toNat)) = ji15 := fun hle_ => by have h_ := hji15z hle_; rw [Int.one_mul] at h_; exact h_
                    replace H := Option.bind_eq_some_iff.mp H
                    obtain ⟨t121, A160, H⟩ := H
                    replace H : (some (wrap64 (1 + t121))) = some r := H
                    have A16 := Aside0.mk A160
                    clear A160
                    obtain rfl := Option.some.inj H
                    have p117 : 0 ≤ (x15_1 : Int) := of_decide_eq_true (by first | (with_reducible assumption) | assumption)
                    have q117 : x15_1 < (t111.length : Int) := of_decide_eq_true (by first | (with_reducible assumption) | assumption)
                    (try (obtain ⟨Aom_, com_, eom_⟩ := Kd.R_slice HO_13.out; subst eom_))
                    obtain ⟨ad117, e117, hx117_0⟩ := Kd.at_int (Kd.R_reads' HO_13.out).2.2 x15_1 p117 q117
                    cases e117
                    replace p117 := eq_true p117
                    replace q117 := eq_true q117
                    have p118 : 0 ≤ ((rd t111 x15_1) : Int) := of_decide_eq_true (by first | (with_reducible assumption) | assumption)
                    have q118 : (rd t111 x15_1) < (l0.length : Int) := of_decide_eq_true (by first | (with_reducible assumption) | assumption)
                    obtain ⟨ad118, e118, hx118_0⟩ := Kd.at_int HR0.out (rd t111 x15_1) p118 q118
                    cases e118
                    replace hx118_0 := (HB.out.cell (World.block_lt_of_cell? w _ hx118_0)).trans hx118_0
                    replace p118 := eq_true p118
                    replace q118 := eq_true q118
                    try go_wp2_with (first | ((with_reducible refine gate_callee (f := 93) rfl ?_); refine goesL_ (some 25) rfl rfl Try.func93 (by kernel_rfl) rfl #[.int .u64 (Go.bits .and .u64 (rd l0 (rd t111 x15_1)) a1)] rfl (by (try simp only [List.map_toArray, List.map_cons, List.map_nil]); first | done | rfl | (simp only [List.length_drop, List.length_take]; rfl)) ?_; (with_reducible refine (gate_word_many.calls (Go.bits .and .u64 (rd l0 (rd t111 x15_1)) a1) t119 _ A12.out).mono ?_); rintro e w' ⟨rfl, ⟨nd, rfl⟩⟩; refine ⟨_, rfl, ?_⟩))
                    (try (rw [drewN_self wr]; generalize hq_ : World.drewN wr _ = wr; have n0_ : Aside0 (Kd.R (Kd.int .i64) 3 wr w.heap.size (fun _ => True) (.slice (some ad117) t111.length co6) t111) := ⟨by rw [← hq_]; exact (by (with_reducible repeat (first | apply Kd.R_alloc | apply Kd.R_drewN | apply Kd.R_drew)); exact HO_13.out)⟩; have n1_ : Aside0 (Below w.heap.size w wr) := ⟨by rw [← hq_]; exact (by repeat (first | (with_reducible first | exact HB.out | apply below_alloc | apply pw_below_drewN | apply below_drew1) | exact HB.out))⟩; clear HO_13 HB hq_; have HO_13 := n0_; have HB := n1_; clear n0_ n1_))
                    have n0_ := Aside0.mk (Kd.R_drew HO_13.out)
                    have n1_ := Aside0.mk (below_drew1 HB.out)
                    clear HO_13
                    clear HB
                    have HO_13 := n0_
                    have HB := n1_
                    clear n0_ n1_
                    have p120 : 0 ≤ ((rd t111 x15_1) : Int) := of_decide_eq_true (by first | (with_reducible assumption) | assumption)
                    have q120 : (rd t111 x15_1) < (l0.length : Int) := of_decide_eq_true (by first | (with_reducible assumption) | assumption)
                    obtain ⟨ad120, e120, hx120_0⟩ := Kd.at_int HR0.out (rd t111 x15_1) p120 q120
                    have hw120_0 := hx120_0
                    obtain rfl : ad118 = ad120 := (by injection e120)
                    replace hx120_0 := (HB.out.cell (World.block_lt_of_cell? w _ hx120_0)).trans hx120_0
                    replace p120 := eq_true p120
                    replace q120 := eq_true q120
                    refine start_ (n := 13) (S := fun w' => w'.cell? (ad118.add ((rd t111 x15_1)).toNat) = some (.int .u64 (rd l0 (rd t111 x15_1)))) (ds := []) #[false, false, false, false, false, false, false, false, false, false, false, false, false] (by kernel_rfl) rfl rfl (((HB.out.cell (World.block_lt_of_cell? w _ hw120_0)).trans hw120_0)) (fun hHeld => ?_); refine with_tabW gate_graph_most.tab9 gate_graph_most.bits9 (fun HT_ HW_ => ?_)
                    generalize wr.drew = w17 at HO_13 HB hx120_0 hHeld ⊢
                    refine pure_ (i := 0) (N := some 29) (v := ?_) (a' := ?_) #[true, false, false, false, false, false, false, false, false, false, false, false, false] rfl rfl (any_of HT_.out (by kernel_rfl)) (fun _ _ _ h => h) (Or.inl ⟨by rfl, ?_⟩) ?_ ?_
                    rotate_left
                    · intro w'
                      go_simp
                      with_reducible rfl
                    rotate_left
                    · simp only [Act.put, List.setIfInBounds_toArray, List.set_cons_zero, List.set_cons_succ, i64_w, i32_w]
                      rfl
                    refine pure_ (i := 1) (N := some 30) (v := ?_) (a' := ?_) #[true, true, false, false, false, false, false, false, false, false, false, false, false] rfl rfl (any_of HT_.out (by kernel_rfl)) (fun _ _ _ h => h) (Or.inl ⟨by rfl, ?_⟩) ?_ ?_
                    rotate_left
                    · intro w'
                      go_simp
                      with_reducible rfl
                    rotate_left
                    · simp only [Act.put, List.setIfInBounds_toArray, List.set_cons_zero, List.set_cons_succ, i64_w, i32_w]
                      rfl
                    refine pure_ (i := 2) (N := some 31) (v := ?_) (a' := ?_) #[true, true, true, false, false, false, false, false, false, false, false, false, false] rfl rfl (any_of HT_.out (by kernel_rfl)) (fun _ _ _ h => h) (Or.inl ⟨by rfl, ?_⟩) ?_ ?_
                    rotate_left
                    · intro w'
                      go_simp
                      with_reducible rfl
                    rotate_left
                    · simp only [Act.put, List.setIfInBounds_toArray, List.set_cons_zero, List.set_cons_succ, i64_w, i32_w]
                      rfl
                    refine pure_ (i := 3) (N := some 32) (v := ?_) (a' := ?_) #[true, true, true, true, false, false, false, false, false, false, false, false, false] rfl rfl (any_of HT_.out (by kernel_rfl)) (fun _ _ _ h => h) (Or.inl ⟨by rfl, ?_⟩) ?_ ?_
                    rotate_left
                    · intro w'
                      go_simp
                      with_reducible rfl
                    rotate_left
                    · simp only [Act.put, List.setIfInBounds_toArray, List.set_cons_zero, List.set_cons_succ, i64_w, i32_w]
                      rfl
                    refine pure_ (i := 4) (N := some 33) (v := ?_) (a' := ?_) #[true, true, true, true, true, false, false, false, false, false, false, false, false] rfl rfl (any_of HT_.out (by kernel_rfl)) (fun _ _ _ h => h) (Or.inl ⟨by rfl, ?_⟩) ?_ ?_
                    rotate_left
                    · intro w'
                      go_simp
                      with_reducible rfl
                    rotate_left
                    · simp only [Act.put, List.setIfInBounds_toArray, List.set_cons_zero, List.set_cons_succ, i64_w, i32_w]
                      rfl
                    refine pure_ (i := 7) (N := some 36) (v := ?_) (a' := ?_) #[true, true, true, true, true, false, false, true, false, false, false, false, false] rfl rfl (any_of HT_.out (by kernel_rfl)) (fun _ _ _ h => h) (Or.inl ⟨by rfl, ?_⟩) ?_ ?_
                    rotate_left
                    · intro w'
                      go_simp
                      with_reducible rfl
                    rotate_left
                    · simp only [Act.put, List.setIfInBounds_toArray, List.set_cons_zero, List.set_cons_succ, i64_w, i32_w]
                      rfl
                    refine pure_ (i := 8) (N := some 37) (v := ?_) (a' := ?_) #[true, true, true, true, true, false, false, true, true, false, false, false, false] rfl rfl (any_of HT_.out (by kernel_rfl)) (fun _ _ _ h => h) (Or.inl ⟨by rfl, ?_⟩) ?_ ?_
                    rotate_left
                    · intro w'
                      go_simp
                      with_reducible rfl
                    rotate_left
                    · simp only [Act.put, List.setIfInBounds_toArray, List.set_cons_zero, List.set_cons_succ, i64_w, i32_w]
                      rfl
                    refine take_ (i := 5) (N := some 34) (v := ?_) (a' := ?_) #[true, true, true, true, true, true, false, true, true, false, false, false, false] rfl rfl (take_ofW HT_.out HW_.out (by kernel_rfl)) (fun _ _ _ h => h) (Or.inl ⟨by rfl, ?_⟩) hHeld ?_ ?_
                    rotate_left
                    · intro w' s0
                      go_simp
                      with_reducible rfl
                    rotate_left
                    · simp only [Act.put, List.setIfInBounds_toArray, List.set_cons_zero, List.set_cons_succ, i64_w, i32_w]
                      rfl
                    refine pure_ (i := 6) (N := some 35) (v := ?_) (a' := ?_) #[true, true, true, true, true, true, true, true, true, false, false, false, false] rfl rfl (any_of HT_.out (by kernel_rfl)) (fun _ _ _ h => h) (Or.inl ⟨by rfl, ?_⟩) ?_ ?_
                    rotate_left
                    · intro w'
                      go_simp
                      with_reducible rfl
                    rotate_left
                    · simp only [Act.put, List.setIfInBounds_toArray, List.set_cons_zero, List.set_cons_succ, i64_w, i32_w]
                      rfl
                    refine pure_ (i := 9) (N := some 38) (v := ?_) (a' := ?_) #[true, true, true, true, true, true, true, true, true, true, false, false, false] rfl rfl (any_of HT_.out (by kernel_rfl)) (fun _ _ _ h => h) (Or.inl ⟨by rfl, ?_⟩) ?_ ?_
                    rotate_left
                    · intro w'
                      go_simp
                      with_reducible rfl
                    rotate_left
                    · simp only [Act.put, List.setIfInBounds_toArray, List.set_cons_zero, List.set_cons_succ, i64_w, i32_w]
                      rfl
                    refine one_ (i := 10) (N := some 39) #[true, true, true, true, true, true, true, true, true, true, true, false, false] rfl rfl (one_of HT_.out (by kernel_rfl)) (by decide) (fun K hK => ?_)
                    refine goes_ Try.func67 (by kernel_rfl) rfl #[.slice (some ad118) l0.length c0, .int .u64 (Go.bits .andNot .u64 (Go.bits .andNot .u64 a1 (rd l0 (rd t111 x15_1))) (ji15))] (by rfl) rfl rfl (by (try simp only [List.map_toArray, List.map_cons, List.map_nil]); first | done | (simp only [hji15]; rfl) | rfl | (simp only [List.length_drop, List.length_take]; rfl)) ?_
                    with_reducible refine (ih k1 (by have := HK1.out; omega) _ _ l0 (Go.bits .andNot .u64 (Go.bits .andNot .u64 a1 (rd l0 (rd t111 x15_1))) (ji15)) t121 _ ?side1 ?side2 A16.out).mono ?_
                    (case side1 => repeat (first | exact (Kd.C_below HR0.out HB.out) | (with_reducible refine Kd.C_alloc ?_ _) | (with_reducible refine Kd.C_drewN ?_ _) | (with_reducible refine Kd.C_drew ?_)))
                    (case side2 => exact HC0.out)
                    rintro e w18 ⟨rfl, hb⟩
                    refine ⟨_, rfl, ?_⟩
                    have n0_ := Aside0.mk (Kd.R_below (by (with_reducible repeat (first | apply Kd.R_alloc | apply Kd.R_drewN | apply Kd.R_drew)); exact HO_13.out) hb)
                    have n1_ := Aside0.mk (below_step (by repeat (first | (with_reducible first | exact HB.out | apply below_alloc | apply pw_below_drewN | apply below_drew1) | exact HB.out)) hb)
                    clear HO_13
                    clear HB
                    have HO_13 := n0_
                    have HB := n1_
                    clear n0_ n1_
                    (try clear hb)
                    (try clear hb2)
                    (try clear hk)
                    (try clear hi)
                    refine hK.out _ _ (((HB.out.cell (World.block_lt_of_cell? w _ hw120_0)).trans hw120_0)) (fun hHeld => ?_)
                    clear hK K
                    refine norm_ (a' := ?_) ?_ ?_
                    rotate_left
                    · show Act.put _ (some 39) _ = _
                      simp only [Act.put, List.setIfInBounds_toArray, List.set_cons_zero, List.set_cons_succ, i64_w, i32_w]
                      rfl
                    refine pure_ (i := 11) (N := some 40) (v := ?_) (a' := ?_) #[true, true, true, true, true, true, true, true, true, true, true, true, false] rfl rfl (any_of HT_.out (by kernel_rfl)) (fun _ _ _ h => h) (Or.inl ⟨by rfl, ?_⟩) ?_ ?_
                    rotate_left
                    · intro w'
                      go_simp
                      with_reducible rfl
                    rotate_left
                    · simp only [Act.put, List.setIfInBounds_toArray, List.set_cons_zero, List.set_cons_succ, i64_w, i32_w]
                      rfl
                    refine pure_ (i := 12) (N := some 4) (v := ?_) (a' := ?_) #[true, true, true, true, true, true, true, true, true, true, true, true, true] rfl rfl (any_of HT_.out (by kernel_rfl)) (fun _ _ _ h => h) (Or.inl ⟨by rfl, ?_⟩) ?_ ?_
                    rotate_left
                    · intro w'
                      go_simp
                      with_reducible rfl
                    rotate_left
                    · simp only [Act.put, List.setIfInBounds_toArray, List.set_cons_zero, List.set_cons_succ, i64_w, i32_w]
                      rfl
                    refine done_ (done_of HT_.out (by kernel_rfl)) ?_
                    try go_wp2
                    go_ret
                    exact ⟨by first | rfl | (simp [errW_none, errW_some] <;> rfl) | (simp only [← hji15]; first | rfl | (simp [errW_none, errW_some] <;> rfl)) | (simp [*, errW_none, errW_some] <;> rfl), by repeat (first | (with_reducible first | exact HB.out | apply below_alloc | apply pw_below_drewN | apply below_drew1) | exact HB.out)⟩
                  · rw [if_neg c13] at H
                    have c13b0 : decide (t119 ≤ 1) = false := decide_eq_false c13
                    clear c13
                    by_cases c19 : t119 > x6_1
                    · rw [if_pos c19] at H
                      have c19b0 : decide (x6_1 < t119) = true := decide_eq_true c19
                      clear c19
                      have H' := Aside0.mk H
                      clear H
                      have p117 : 0 ≤ (x15_1 : Int) := of_decide_eq_true (by first | (with_reducible assumption) | assumption)
                      have q117 : x15_1 < (t111.length : Int) := of_decide_eq_true (by first | (with_reducible assumption) | assumption)
                      (try (obtain ⟨Aom_, com_, eom_⟩ := Kd.R_slice HO_13.out; subst eom_))
                      obtain ⟨ad117, e117, hx117_0⟩ := Kd.at_int (Kd.R_reads' HO_13.out).2.2 x15_1 p117 q117
                      cases e117
                      replace p117 := eq_true p117
                      replace q117 := eq_true q117
                      have p118 : 0 ≤ ((rd t111 x15_1) : Int) := of_decide_eq_true (by first | (with_reducible assumption) | assumption)
                      have q118 : (rd t111 x15_1) < (l0.length : Int) := of_decide_eq_true (by first | (with_reducible assumption) | assumption)
                      obtain ⟨ad118, e118, hx118_0⟩ := Kd.at_int HR0.out (rd t111 x15_1) p118 q118
                      cases e118
                      replace hx118_0 := (HB.out.cell (World.block_lt_of_cell? w _ hx118_0)).trans hx118_0
                      replace p118 := eq_true p118
                      replace q118 := eq_true q118
                      go_wp2_with (first | ((with_reducible refine gate_callee (f := 93) rfl ?_); refine goesL_ (some 25) rfl rfl Try.func93 (by kernel_rfl) rfl #[.int .u64 (Go.bits .and .u64 (rd l0 (rd t111 x15_1)) a1)] rfl (by (try simp only [List.map_toArray, List.map_cons, List.map_nil]); first | done | rfl | (simp only [List.length_drop, List.length_take]; rfl)) ?_; (with_reducible refine (gate_word_many.calls (Go.bits .and .u64 (rd l0 (rd t111 x15_1)) a1) t119 _ A12.out).mono ?_); rintro e w' ⟨rfl, ⟨nd, rfl⟩⟩; refine ⟨_, rfl, ?_⟩))
                      go_roundg k1
                      case measure => have := HK1.out; omega
                      case rel => exact ⟨(rd t111 x15_1), (t119), (wrap64 (x15_1 + 1)), (by first | rfl | (simp; done) | (simp [*]; done)), (by first | rfl | (simp; done) | (simp [*]; done)), (by first | rfl | (simp; done) | (simp [*]; done)), H', ⟨by have := HK1.out; omega⟩, ⟨by (with_reducible repeat (first | apply Kd.R_alloc | apply Kd.R_drewN | apply Kd.R_drew)); first | exact HO_13.out | exact Kd.R_mono HO_13.out (fun k_ h_ => ne_own_len h_)⟩, ⟨by repeat (first | (with_reducible first | exact HB.out | apply below_alloc | apply pw_below_drewN | apply below_drew1) | exact HB.out)⟩⟩
                    · rw [if_neg c19] at H
                      have c19b0 : decide (x6_1 < t119) = false := decide_eq_false c19
                      clear c19
                      have H' := Aside0.mk H
                      clear H
                      have p117 : 0 ≤ (x15_1 : Int) := of_decide_eq_true (by first | (with_reducible assumption) | assumption)
                      have q117 : x15_1 < (t111.length : Int) := of_decide_eq_true (by first | (with_reducible assumption) | assumption)
                      (try (obtain ⟨Aom_, com_, eom_⟩ := Kd.R_slice HO_13.out; subst eom_))
                      obtain ⟨ad117, e117, hx117_0⟩ := Kd.at_int (Kd.R_reads' HO_13.out).2.2 x15_1 p117 q117
                      cases e117
                      replace p117 := eq_true p117
                      replace q117 := eq_true q117
                      have p118 : 0 ≤ ((rd t111 x15_1) : Int) := of_decide_eq_true (by first | (with_reducible assumption) | assumption)
                      have q118 : (rd t111 x15_1) < (l0.length : Int) := of_decide_eq_true (by first | (with_reducible assumption) | assumption)
                      obtain ⟨ad118, e118, hx118_0⟩ := Kd.at_int HR0.out (rd t111 x15_1) p118 q118
                      cases e118
                      replace hx118_0 := (HB.out.cell (World.block_lt_of_cell? w _ hx118_0)).trans hx118_0
                      replace p118 := eq_true p118
                      replace q118 := eq_true q118
                      go_wp2_with (first | ((with_reducible refine gate_callee (f := 93) rfl ?_); refine goesL_ (some 25) rfl rfl Try.func93 (by kernel_rfl) rfl #[.int .u64 (Go.bits .and .u64 (rd l0 (rd t111 x15_1)) a1)] rfl (by (try simp only [List.map_toArray, List.map_cons, List.map_nil]); first | done | rfl | (simp only [List.length_drop, List.length_take]; rfl)) ?_; (with_reducible refine (gate_word_many.calls (Go.bits .and .u64 (rd l0 (rd t111 x15_1)) a1) t119 _ A12.out).mono ?_); rintro e w' ⟨rfl, ⟨nd, rfl⟩⟩; refine ⟨_, rfl, ?_⟩))
                      go_roundg k1
                      case measure => have := HK1.out; omega
                      case rel => exact ⟨(x5_1), (x6_1), (wrap64 (x15_1 + 1)), (by first | rfl | (simp; done) | (simp [*]; done)), (by first | rfl | (simp; done) | (simp [*]; done)), (by first | rfl | (simp; done) | (simp [*]; done)), H', ⟨by have := HK1.out; omega⟩, ⟨by (with_reducible repeat (first | apply Kd.R_alloc | apply Kd.R_drewN | apply Kd.R_drew)); first | exact HO_13.out | exact Kd.R_mono HO_13.out (fun k_ h_ => ne_own_len h_)⟩, ⟨by repeat (first | (with_reducible first | exact HB.out | apply below_alloc | apply pw_below_drewN | apply below_drew1) | exact HB.out)⟩⟩
                · rw [if_neg c11] at H
                  exact absurd H (by simp)
              · rw [if_neg c10] at H
                exact absurd H (by simp)
            · rw [if_neg c9] at H
              exact absurd H (by simp)
          · rw [if_neg c8] at H
            exact absurd H (by simp)
        · rw [if_neg c7] at H
          have c7b0 : decide (x15_1 < (t111.length : Int)) = false := decide_eq_false c7
          clear c7
          by_cases c20 : 0 ≤ x5_1
          · rw [if_pos c20] at H
            have c20b0 : decide (0 ≤ x5_1) = true := decide_eq_true c20
            clear c20
            by_cases c21 : x5_1 < (l0.length : Int)
            · rw [if_pos c21] at H
              have c21b0 : decide (x5_1 < (l0.length : Int)) = true := decide_eq_true c21
              clear c21
              have c22b0 := eq_true (of_decide_eq_true (by first | (with_reducible assumption) | assumption) : 0 ≤ x5_1)
              obtain ⟨ji23, hji23⟩ : ∃ j_ : Int, (shl .u64 1 x5_1) = j_ := ⟨_, rfl⟩
              replace H : ((gate_graph_most.f k1 l0 (Go.bits .andNot .u64 (Go.bits .andNot .u64 a1 (rd l0 x5_1)) (ji23))).bind fun t115 => ((gate_graph_most.f k1 l0 (Go.bits .andNot .u64 a1 (ji23))).bind fun t116 => (some (mx (wrap64 (1 + t115)) t116)))) = some r := by first | (rw [hji23] at H; exact H) | (simp only [hji23] at H ⊢; exact H)
              have hji23_ : (IntKind.u64.wrap (1 * 2 ^ min x5_1.toNat 64)) = ji23 := hji23
              have hji23z : x5_1 ≤ 64 → (IntKind.u64.wrap (1 * 2 ^ x5_1.toNat)) = ji23 := shl_small hji23
              have hji23u : (IntKind.u64.wrap (2 ^ min x5_1.toNat 64)) = ji23 := by have h_ := hji23_; rw [Int.one_mul] at h_; exact h_
              have hji23v : x5_1 ≤ 64 → (IntKind.u64.wrap (2 ^ x5_1.toNat)) = ji23 := fun hle_ => by have h_ := hji23z hle_; rw [Int.one_mul] at h_; exact h_
              replace H := Option.bind_eq_some_iff.mp H
              obtain ⟨t115, A240, H⟩ := H
              replace H : ((gate_graph_most.f k1 l0 (Go.bits .andNot .u64 a1 (ji23))).bind fun t116 => (some (mx (wrap64 (1 + t115)) t116))) = some r := H
              have A24 := Aside0.mk A240
              clear A240
              have c25b0 := eq_true (of_decide_eq_true (by first | (with_reducible assumption) | assumption) : 0 ≤ x5_1)
              replace H := Option.bind_eq_some_iff.mp H
              obtain ⟨t116, A270, H⟩ := H
              replace H : (some (mx (wrap64 (1 + t115)) t116)) = some r := H
              have A27 := Aside0.mk A270
              clear A270
              obtain ⟨ji28, hji28⟩ : ∃ j_ : Int, (mx (wrap64 (1 + t115)) t116) = j_ := ⟨_, rfl⟩
              replace H : (some ji28) = some r := by first | (rw [hji28] at H; exact H) | (simp only [hji28] at H ⊢; exact H)
              (try rw [hji28] at A24)
              (try rw [hji28] at A27)
              have hji28_ : (if (wrap64 (1 + t115)) < t116 then t116 else (wrap64 (1 + t115))) = ji28 := hji28
              obtain rfl := Option.some.inj H
              try go_wp2
              have n0_ := Aside0.mk (Kd.R_drew HO_13.out)
              have n1_ := Aside0.mk (below_drew1 HB.out)
              clear HO_13
              clear HB
              have HO_13 := n0_
              have HB := n1_
              clear n0_ n1_
              have p114 : 0 ≤ (x5_1 : Int) := of_decide_eq_true (by first | (with_reducible assumption) | assumption)
              have q114 : x5_1 < (l0.length : Int) := of_decide_eq_true (by first | (with_reducible assumption) | assumption)
              obtain ⟨ad114, e114, hx114_0⟩ := Kd.at_int HR0.out x5_1 p114 q114
              have hw114_0 := hx114_0
              cases e114
              replace hx114_0 := (HB.out.cell (World.block_lt_of_cell? w _ hx114_0)).trans hx114_0
              replace p114 := eq_true p114
              replace q114 := eq_true q114
              refine start_ (n := 20) (S := fun w' => w'.cell? (ad114.add (x5_1).toNat) = some (.int .u64 (rd l0 x5_1))) (ds := []) #[false, false, false, false, false, false, false, false, false, false, false, false, false, false, false, false, false, false, false, false] (by kernel_rfl) rfl rfl (((HB.out.cell (World.block_lt_of_cell? w _ hw114_0)).trans hw114_0)) (fun hHeld => ?_); refine with_tabW gate_graph_most.tab13 gate_graph_most.bits13 (fun HT_ HW_ => ?_)
              generalize wr.drew = w29 at HO_13 HB hx114_0 hHeld ⊢
              refine pure_ (i := 0) (N := some 48) (v := ?_) (a' := ?_) #[true, false, false, false, false, false, false, false, false, false, false, false, false, false, false, false, false, false, false, false] rfl rfl (any_of HT_.out (by kernel_rfl)) (fun _ _ _ h => h) (Or.inl ⟨by rfl, ?_⟩) ?_ ?_
              rotate_left
              · intro w'
                go_simp
                with_reducible rfl
              rotate_left
              · simp only [Act.put, List.setIfInBounds_toArray, List.set_cons_zero, List.set_cons_succ, i64_w, i32_w]
                rfl
              refine pure_ (i := 1) (N := some 49) (v := ?_) (a' := ?_) #[true, true, false, false, false, false, false, false, false, false, false, false, false, false, false, false, false, false, false, false] rfl rfl (any_of HT_.out (by kernel_rfl)) (fun _ _ _ h => h) (Or.inl ⟨by rfl, ?_⟩) ?_ ?_
              rotate_left
              · intro w'
                go_simp
                with_reducible rfl
              rotate_left
              · simp only [Act.put, List.setIfInBounds_toArray, List.set_cons_zero, List.set_cons_succ, i64_w, i32_w]
                rfl
              refine pure_ (i := 2) (N := some 50) (v := ?_) (a' := ?_) #[true, true, true, false, false, false, false, false, false, false, false, false, false, false, false, false, false, false, false, false] rfl rfl (any_of HT_.out (by kernel_rfl)) (fun _ _ _ h => h) (Or.inl ⟨by rfl, ?_⟩) ?_ ?_
              rotate_left
              · intro w'
                go_simp
                with_reducible rfl
              rotate_left
              · simp only [Act.put, List.setIfInBounds_toArray, List.set_cons_zero, List.set_cons_succ, i64_w, i32_w]
                rfl
              refine pure_ (i := 3) (N := some 51) (v := ?_) (a' := ?_) #[true, true, true, true, false, false, false, false, false, false, false, false, false, false, false, false, false, false, false, false] rfl rfl (any_of HT_.out (by kernel_rfl)) (fun _ _ _ h => h) (Or.inl ⟨by rfl, ?_⟩) ?_ ?_
              rotate_left
              · intro w'
                go_simp
                with_reducible rfl
              rotate_left
              · simp only [Act.put, List.setIfInBounds_toArray, List.set_cons_zero, List.set_cons_succ, i64_w, i32_w]
                rfl
              refine pure_ (i := 4) (N := some 52) (v := ?_) (a' := ?_) #[true, true, true, true, true, false, false, false, false, false, false, false, false, false, false, false, false, false, false, false] rfl rfl (any_of HT_.out (by kernel_rfl)) (fun _ _ _ h => h) (Or.inl ⟨by rfl, ?_⟩) ?_ ?_
              rotate_left
              · intro w'
                go_simp
                with_reducible rfl
              rotate_left
              · simp only [Act.put, List.setIfInBounds_toArray, List.set_cons_zero, List.set_cons_succ, i64_w, i32_w]
                rfl
              refine pure_ (i := 7) (N := some 55) (v := ?_) (a' := ?_) #[true, true, true, true, true, false, false, true, false, false, false, false, false, false, false, false, false, false, false, false] rfl rfl (any_of HT_.out (by kernel_rfl)) (fun _ _ _ h => h) (Or.inl ⟨by rfl, ?_⟩) ?_ ?_
              rotate_left
              · intro w'
                go_simp
                with_reducible rfl
              rotate_left
              · simp only [Act.put, List.setIfInBounds_toArray, List.set_cons_zero, List.set_cons_succ, i64_w, i32_w]
                rfl
              refine pure_ (i := 8) (N := some 56) (v := ?_) (a' := ?_) #[true, true, true, true, true, false, false, true, true, false, false, false, false, false, false, false, false, false, false, false] rfl rfl (any_of HT_.out (by kernel_rfl)) (fun _ _ _ h => h) (Or.inl ⟨by rfl, ?_⟩) ?_ ?_
              rotate_left
              · intro w'
                go_simp
                with_reducible rfl
              rotate_left
              · simp only [Act.put, List.setIfInBounds_toArray, List.set_cons_zero, List.set_cons_succ, i64_w, i32_w]
                rfl
              refine pure_ (i := 12) (N := some 60) (v := ?_) (a' := ?_) #[true, true, true, true, true, false, false, true, true, false, false, false, true, false, false, false, false, false, false, false] rfl rfl (any_of HT_.out (by kernel_rfl)) (fun _ _ _ h => h) (Or.inl ⟨by rfl, ?_⟩) ?_ ?_
              rotate_left
              · intro w'
                go_simp
                with_reducible rfl
              rotate_left
              · simp only [Act.put, List.setIfInBounds_toArray, List.set_cons_zero, List.set_cons_succ, i64_w, i32_w]
                rfl
              refine pure_ (i := 13) (N := some 61) (v := ?_) (a' := ?_) #[true, true, true, true, true, false, false, true, true, false, false, false, true, true, false, false, false, false, false, false] rfl rfl (any_of HT_.out (by kernel_rfl)) (fun _ _ _ h => h) (Or.inl ⟨by rfl, ?_⟩) ?_ ?_
              rotate_left
              · intro w'
                go_simp
                with_reducible rfl
              rotate_left
              · simp only [Act.put, List.setIfInBounds_toArray, List.set_cons_zero, List.set_cons_succ, i64_w, i32_w]
                rfl
              refine pure_ (i := 14) (N := some 62) (v := ?_) (a' := ?_) #[true, true, true, true, true, false, false, true, true, false, false, false, true, true, true, false, false, false, false, false] rfl rfl (any_of HT_.out (by kernel_rfl)) (fun _ _ _ h => h) (Or.inl ⟨by rfl, ?_⟩) ?_ ?_
              rotate_left
              · intro w'
                go_simp
                with_reducible rfl
              rotate_left
              · simp only [Act.put, List.setIfInBounds_toArray, List.set_cons_zero, List.set_cons_succ, i64_w, i32_w]
                rfl
              refine pure_ (i := 15) (N := some 63) (v := ?_) (a' := ?_) #[true, true, true, true, true, false, false, true, true, false, false, false, true, true, true, true, false, false, false, false] rfl rfl (any_of HT_.out (by kernel_rfl)) (fun _ _ _ h => h) (Or.inl ⟨by rfl, ?_⟩) ?_ ?_
              rotate_left
              · intro w'
                go_simp
                with_reducible rfl
              rotate_left
              · simp only [Act.put, List.setIfInBounds_toArray, List.set_cons_zero, List.set_cons_succ, i64_w, i32_w]
                rfl
              refine pure_ (i := 16) (N := some 64) (v := ?_) (a' := ?_) #[true, true, true, true, true, false, false, true, true, false, false, false, true, true, true, true, true, false, false, false] rfl rfl (any_of HT_.out (by kernel_rfl)) (fun _ _ _ h => h) (Or.inl ⟨by rfl, ?_⟩) ?_ ?_
              rotate_left
              · intro w'
                go_simp
                with_reducible rfl
              rotate_left
              · simp only [Act.put, List.setIfInBounds_toArray, List.set_cons_zero, List.set_cons_succ, i64_w, i32_w]
                rfl
              refine take_ (i := 5) (N := some 53) (v := ?_) (a' := ?_) #[true, true, true, true, true, true, false, true, true, false, false, false, true, true, true, true, true, false, false, false] rfl rfl (take_ofW HT_.out HW_.out (by kernel_rfl)) (fun _ _ _ h => h) (Or.inl ⟨by rfl, ?_⟩) hHeld ?_ ?_
              rotate_left
              · intro w' s0
                go_simp
                with_reducible rfl
              rotate_left
              · simp only [Act.put, List.setIfInBounds_toArray, List.set_cons_zero, List.set_cons_succ, i64_w, i32_w]
                rfl
              refine pure_ (i := 6) (N := some 54) (v := ?_) (a' := ?_) #[true, true, true, true, true, true, true, true, true, false, false, false, true, true, true, true, true, false, false, false] rfl rfl (any_of HT_.out (by kernel_rfl)) (fun _ _ _ h => h) (Or.inl ⟨by rfl, ?_⟩) ?_ ?_
              rotate_left
              · intro w'
                go_simp
                with_reducible rfl
              rotate_left
              · simp only [Act.put, List.setIfInBounds_toArray, List.set_cons_zero, List.set_cons_succ, i64_w, i32_w]
                rfl
              refine pure_ (i := 9) (N := some 57) (v := ?_) (a' := ?_) #[true, true, true, true, true, true, true, true, true, true, false, false, true, true, true, true, true, false, false, false] rfl rfl (any_of HT_.out (by kernel_rfl)) (fun _ _ _ h => h) (Or.inl ⟨by rfl, ?_⟩) ?_ ?_
              rotate_left
              · intro w'
                go_simp
                with_reducible rfl
              rotate_left
              · simp only [Act.put, List.setIfInBounds_toArray, List.set_cons_zero, List.set_cons_succ, i64_w, i32_w]
                rfl
              refine one_ (i := 10) (N := some 58) #[true, true, true, true, true, true, true, true, true, true, true, false, true, true, true, true, true, false, false, false] rfl rfl (one_of HT_.out (by kernel_rfl)) (by decide) (fun K hK => ?_)
              refine goes_ Try.func67 (by kernel_rfl) rfl #[.slice (some ad114) l0.length c0, .int .u64 (Go.bits .andNot .u64 (Go.bits .andNot .u64 a1 (rd l0 x5_1)) (ji23))] (by rfl) rfl rfl (by (try simp only [List.map_toArray, List.map_cons, List.map_nil]); first | done | (simp only [hji23]; rfl) | rfl | (simp only [List.length_drop, List.length_take]; rfl)) ?_
              with_reducible refine (ih k1 (by have := HK1.out; omega) _ _ l0 (Go.bits .andNot .u64 (Go.bits .andNot .u64 a1 (rd l0 x5_1)) (ji23)) t115 _ ?side1 ?side2 A24.out).mono ?_
              (case side1 => repeat (first | exact (Kd.C_below HR0.out HB.out) | (with_reducible refine Kd.C_alloc ?_ _) | (with_reducible refine Kd.C_drewN ?_ _) | (with_reducible refine Kd.C_drew ?_)))
              (case side2 => exact HC0.out)
              rintro e w30 ⟨rfl, hb⟩
              refine ⟨_, rfl, ?_⟩
              have n0_ := Aside0.mk (Kd.R_below (by (with_reducible repeat (first | apply Kd.R_alloc | apply Kd.R_drewN | apply Kd.R_drew)); exact HO_13.out) hb)
              have n1_ := Aside0.mk (below_step (by repeat (first | (with_reducible first | exact HB.out | apply below_alloc | apply pw_below_drewN | apply below_drew1) | exact HB.out)) hb)
              clear HO_13
              clear HB
              have HO_13 := n0_
              have HB := n1_
              clear n0_ n1_
              (try clear hb)
              (try clear hb2)
              (try clear hk)
              (try clear hi)
              refine hK.out _ _ (((HB.out.cell (World.block_lt_of_cell? w _ hw114_0)).trans hw114_0)) (fun hHeld => ?_)
              clear hK K
              refine norm_ (a' := ?_) ?_ ?_
              rotate_left
              · show Act.put _ (some 58) _ = _
                simp only [Act.put, List.setIfInBounds_toArray, List.set_cons_zero, List.set_cons_succ, i64_w, i32_w]
                rfl
              refine pure_ (i := 11) (N := some 59) (v := ?_) (a' := ?_) #[true, true, true, true, true, true, true, true, true, true, true, true, true, true, true, true, true, false, false, false] rfl rfl (any_of HT_.out (by kernel_rfl)) (fun _ _ _ h => h) (Or.inl ⟨by rfl, ?_⟩) ?_ ?_
              rotate_left
              · intro w'
                go_simp
                with_reducible rfl
              rotate_left
              · simp only [Act.put, List.setIfInBounds_toArray, List.set_cons_zero, List.set_cons_succ, i64_w, i32_w]
                rfl
              refine one_ (i := 17) (N := some 65) #[true, true, true, true, true, true, true, true, true, true, true, true, true, true, true, true, true, true, false, false] rfl rfl (one_of HT_.out (by kernel_rfl)) (by decide) (fun K hK => ?_)
              refine goes_ Try.func67 (by kernel_rfl) rfl #[.slice (some ad114) l0.length c0, .int .u64 (Go.bits .andNot .u64 a1 (ji23))] (by rfl) rfl rfl (by (try simp only [List.map_toArray, List.map_cons, List.map_nil]); first | done | (simp only [hji23]; rfl) | rfl | (simp only [List.length_drop, List.length_take]; rfl)) ?_
              with_reducible refine (ih k1 (by have := HK1.out; omega) _ _ l0 (Go.bits .andNot .u64 a1 (ji23)) t116 _ ?side1 ?side2 A27.out).mono ?_
              (case side1 => repeat (first | exact (Kd.C_below HR0.out HB.out) | (with_reducible refine Kd.C_alloc ?_ _) | (with_reducible refine Kd.C_drewN ?_ _) | (with_reducible refine Kd.C_drew ?_)))
              (case side2 => exact HC0.out)
              rintro e w31 ⟨rfl, hb⟩
              refine ⟨_, rfl, ?_⟩
              have n0_ := Aside0.mk (Kd.R_below (by (with_reducible repeat (first | apply Kd.R_alloc | apply Kd.R_drewN | apply Kd.R_drew)); exact HO_13.out) hb)
              have n1_ := Aside0.mk (below_step (by repeat (first | (with_reducible first | exact HB.out | apply below_alloc | apply pw_below_drewN | apply below_drew1) | exact HB.out)) hb)
              clear HO_13
              clear HB
              have HO_13 := n0_
              have HB := n1_
              clear n0_ n1_
              (try clear hb)
              (try clear hb2)
              (try clear hk)
              (try clear hi)
              refine hK.out _ _ (((HB.out.cell (World.block_lt_of_cell? w _ hw114_0)).trans hw114_0)) (fun hHeld => ?_)
              clear hK K
              refine norm_ (a' := ?_) ?_ ?_
              rotate_left
              · show Act.put _ (some 65) _ = _
                simp only [Act.put, List.setIfInBounds_toArray, List.set_cons_zero, List.set_cons_succ, i64_w, i32_w]
                rfl
              refine pure_ (i := 18) (N := some 66) (v := ?_) (a' := ?_) #[true, true, true, true, true, true, true, true, true, true, true, true, true, true, true, true, true, true, true, false] rfl rfl (any_of HT_.out (by kernel_rfl)) (fun _ _ _ h => h) (Or.inl ⟨by rfl, ?_⟩) ?_ ?_
              rotate_left
              · intro w'
                go_simp
                with_reducible rfl
              rotate_left
              · simp only [Act.put, List.setIfInBounds_toArray, List.set_cons_zero, List.set_cons_succ, i64_w, i32_w]
                rfl
              refine pure_ (i := 19) (N := some 4) (v := ?_) (a' := ?_) #[true, true, true, true, true, true, true, true, true, true, true, true, true, true, true, true, true, true, true, true] rfl rfl (any_of HT_.out (by kernel_rfl)) (fun _ _ _ h => h) (Or.inl ⟨by rfl, ?_⟩) ?_ ?_
              rotate_left
              · intro w'
                go_simp
                with_reducible rfl
              rotate_left
              · simp only [Act.put, List.setIfInBounds_toArray, List.set_cons_zero, List.set_cons_succ, i64_w, i32_w]
                rfl
              refine done_ (done_of HT_.out (by kernel_rfl)) ?_
              try go_wp2
              go_ret
              exact ⟨by first | rfl | (simp [errW_none, errW_some] <;> rfl) | (simp only [← hji23, ← hji28]; first | rfl | (simp [errW_none, errW_some] <;> rfl)) | (simp [*, errW_none, errW_some] <;> rfl), by repeat (first | (with_reducible first | exact HB.out | apply below_alloc | apply pw_below_drewN | apply below_drew1) | exact HB.out)⟩
            · rw [if_neg c21] at H
              exact absurd H (by simp)
          · rw [if_neg c20] at H
            exact absurd H (by simp)
end Go.Proofs.Ytelfalicickelaa.P
