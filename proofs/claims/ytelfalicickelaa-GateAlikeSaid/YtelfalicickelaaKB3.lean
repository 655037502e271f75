/- Texts of this claim, merged by a program (shake.py): what the last theorems reach of QOuts, Pf68, Pf81, GateN4, QRep, QShow, QWhere. -/
import Derived.Test.YtelfalicickelaaKB2
import Derived.Test.YtelfalicickelaaKB1
set_option linter.unusedSimpArgs false
set_option linter.unusedVariables false
namespace Go.Proofs.Ytelfalicickelaa.P
open Go.Lib Go.RowKit Go.Proofs.YtelfalicickelaaW.PrintWords Go.Proofs.YtelfalicickelaaW.PrintLast Go.Proofs.YtelfalicickelaaW.PrintMore Go.Proofs.Ytelfalicickelaa.Kit
theorem LAt.start (w : World) (g : Nat) (F : Option Nat) : LAt w g F [] (((w.alloc (.cells #[.pointer (some ⟨g, 0, none⟩)] 67)).alloc (.cells #[.int .i64 (fI F)] 3)).alloc (.cells #[.slice none 0 0] 72)) := by
  obtain ⟨w1, h1⟩ : ∃ w1, w.alloc (.cells #[.pointer (some ⟨g, 0, none⟩)] 67) = w1 := ⟨_, rfl⟩
  have a1 := heap_alloc_new w (.cells #[.pointer (some ⟨g, 0, none⟩)] 67)
  have b1 : Below w.heap.size w w1 := by rw [← h1]; exact below_alloc (Below.refl _ _) _
  have s1 : w1.heap.size = w.heap.size + 1 := by rw [← h1]; simp only [World.size_alloc]
  rw [h1] at a1 ⊢
  obtain ⟨w2, h2⟩ : ∃ w2, w1.alloc (.cells #[.int .i64 (fI F)] 3) = w2 := ⟨_, rfl⟩
  have a2 := heap_alloc_new w1 (.cells #[.int .i64 (fI F)] 3)
  have b2 : Below w1.heap.size w1 w2 := by rw [← h2]; exact below_alloc (Below.refl _ _) _
  have s2 : w2.heap.size = w1.heap.size + 1 := by rw [← h2]; simp only [World.size_alloc]
  rw [h2] at a2 ⊢
  have a3 := heap_alloc_new w2 (.cells #[.slice none 0 0] 72)
  have b3 : Below w2.heap.size w2 (w2.alloc (.cells #[.slice none 0 0] 72)) := below_alloc (Below.refl _ _) _
  rw [s1] at a2
  rw [s2, s1] at a3
  exact ⟨(b3.block _ (by omega)).trans ((b2.block _ (by omega)).trans a1), (b3.block _ (by omega)).trans a2, ⟨none, 0, a3, rfl, .inl ⟨rfl, rfl⟩⟩, b1.trans ((b2.trans (b3.mono (by omega))).mono (by omega))⟩
theorem LAt.reads {w W : World} {g : Nat} {F : Option Nat} {l : List Nat} (h : LAt w g F l W) : ∃ A c, W.cell? ⟨w.heap.size + 1 + 1, 0, none⟩ = some (.slice A (nI l).length c) ∧ Kd.C (Kd.int .u64) W A (nI l).length (nI l) ∧ (nI l).length ≤ c := by
  obtain ⟨A, c, h1, h2⟩ := h.l
  have hl := nI_length l
  rw [← hl] at h1 h2
  obtain ⟨A', c', e1, e2, e3⟩ := Kd.R_reads (R_int_mk0 (ok := fun _ => True) (fun _ _ => trivial) h2)
  injection e1 with e1 e4 e5
  subst e1 e5
  exact ⟨A, c, blkc h1 0 rfl, e3, e2⟩
theorem inW_walk {i v : Nat} (hi : i ≤ 64) (hv : v < 64) : Go.bits .or .u64 ((inW i v : Nat) : Int) (IntKind.u64.wrap (IntKind.u64.wrap (Go.bits .and .i64 ((v : Int) / 2 ^ min i 64) 1) * 2 ^ min v 64)) = ((inW i (v + 1) : Nat) : Int) := by
  rw [Nat.min_eq_left hi, Nat.min_eq_left (by omega)]
  have h1 : (v : Int) / 2 ^ i = ((v / 2 ^ i : Nat) : Int) := by simp
  have hle : v / 2 ^ i ≤ v := Nat.div_le_self _ _
  rw [h1, show (1 : Int) = ((1 : Nat) : Int) from rfl, and64 _ _ (by omega) (by omega), Nat.and_one_is_mod, u64w (by have := Nat.mod_lt (v / 2 ^ i) (show 0 < 2 by omega); omega)]
  have h2 : (2 : Int) ^ v = ((2 ^ v : Nat) : Int) := by simp
  have h3 : 2 ^ v ≤ 2 ^ 63 := Nat.pow_le_pow_right (by decide) (by omega)
  have h4 : v / 2 ^ i % 2 ≤ 1 := by have := Nat.mod_lt (v / 2 ^ i) (show 0 < 2 by omega); omega
  have h5 : v / 2 ^ i % 2 * 2 ^ v ≤ 2 ^ 63 := by
    refine Nat.le_trans (Nat.mul_le_mul_right _ h4) ?_
    omega
  have h6 : (2 : Nat) ^ 63 = 9223372036854775808 := by decide
  have h7 := inW_lt i v
  rw [h2, ← Int.natCast_mul, u64w (by omega), oru64 _ _ (by omega) (by omega), inW_succ]
set_option maxHeartbeats 8000000
set_option maxRecDepth 100000
theorem outs_calls {w : World} {g N : Nat} {ls : List S40} {os : List Int} (F : Option Nat) (hF : ∀ f, F = some f → f ≤ 100) (hok : okC (N : Int) ls os = true) (hC : CircAt w g N ls os) :
    Calls Try.prog 59 #[.pointer (some ⟨g, 0, none⟩), .int .i64 (fI F)] w fun e w' => ∃ v0_ : Value, e = .returned v0_ ∧ Kd.R (Kd.int .u64) 74 w' w.heap.size (fun _ => True) v0_ (nI (GT.outsW (toC N ls os) F)) ∧ Below w.heap.size w w' := by
  have hs := okC_small hok
  have HN1 := Aside0.mk hs.1
  have HN := Aside0.mk (show N ≤ 6 ∧ ls.length ≤ 16 ∧ os.length ≤ 4 by omega)
  have HOk := Aside0.mk hok
  have HF := Aside0.mk hF
  have HC := Aside0.mk hC
  have hC1 := hC
  obtain ⟨A1, c1, A2, c2, Au, cu, h1, h2, h3, h4, h5, h6⟩ := hC1
  have hp := pow6 HN.out.1
  obtain ⟨V, hV⟩ : ∃ V, 2 ^ N = V := ⟨_, rfl⟩
  have HVe := Aside0.mk hV
  rw [hV] at hp
  have HP := Aside0.mk hp
  have m0 := blkc h1 0 rfl
  have m2 := blkc h1 2 rfl
  have m3 := blkc h1 3 rfl
  have HM0 := Aside0.mk m0
  have HM2 := Aside0.mk m2
  have HM3 := Aside0.mk m3
  have HU := Aside0.mk h6
  have HOs := Aside0.mk (And.intro h4 h5)
  have HS := Aside0.mk (LAt.start w g F)
  obtain ⟨cc, hcc⟩ : ∃ cc, toC N ls os = cc := ⟨_, rfl⟩
  have HCc := Aside0.mk hcc
  rw [hcc]
  have b0 : Below w.heap.size w (((w.alloc (.cells #[.pointer (some ⟨g, 0, none⟩)] 67)).alloc (.cells #[.int .i64 (fI F)] 3)).alloc (.cells #[.slice none 0 0] 72)) := HS.out.b
  have m0' := pw_cell_below b0 m0
  clear hs hok hF hC h1 h2 h3 h4 h5 h6 hp hcc m0 m2 m3 b0 hV
  go_enter Try.func59, Try.ntmps59
  go_wp2
  go_loopw [21] (fun v21 w' => ∃ i : Nat, v21 = .int .i64 (i : Int) ∧ Aside0 (i ≤ N) ∧ Aside0 (LAt w g F (GT.words cc F i) w')) (fun v _ => N - (intOf v).toNat)
  case atStart => exact ⟨0, rfl, ⟨Nat.zero_le _⟩, HS⟩
  case round =>
    clear HS m0'
    obtain ⟨i, rfl, Hi, HL⟩ := hrel
    by_cases ct : (i : Int) < (N : Int)
    · have c1b : decide ((i : Int) < (N : Int)) = true := decide_eq_true ct
      have c1c : decide (i < N) = true := decide_eq_true (by omega)
      have Hct := Aside0.mk (show i < N by omega)
      obtain ⟨A0, c0, l0, lf, l2, l3, l4⟩ := HL.out.cells
      clear lf l2 l3 l4 ct
      have hv0 := vectors_calls (HC.out.keep HL.out.b) HN.out.1
      rw [HVe.out] at hv0
      have HV := Aside0.mk hv0
      clear hv0
      go_wp2_with (go_at_call 70; (refine (HV.out).mono ?_); rintro e w2 ⟨rfl, ⟨nd, rfl⟩⟩)
      have HL2 := Aside0.mk (HL.out.keep (pw_below_drewN (Below.refl _ _) nd))
      generalize wr.drewN nd = w3 at *
      have HI0 := Aside0.mk (show (0 : Int) = ((inW i 0 : Nat) : Int) by rfl)
      go_loopw [8, 26] (fun v8 v26 w' => ∃ v : Nat, v26 = .int .i64 (v : Int) ∧ v8 = .int .u64 ((inW i v : Nat) : Int) ∧ Aside0 (v ≤ V) ∧ Aside0 (LAt w g F (GT.words cc F i) w')) (fun _ v _ => V - (intOf v).toNat)
      case atStart => exact ⟨0, rfl, by rw [← HI0.out], ⟨Nat.zero_le _⟩, HL2⟩
      case round =>
        clear HL2 HI0 l0
        obtain ⟨v, rfl, rfl, Hv, HL3⟩ := hrel
        by_cases cv : (v : Int) < (V : Int)
        · have c2b : decide ((v : Int) < (V : Int)) = true := decide_eq_true cv
          have c2c : decide (v < V) = true := decide_eq_true (by omega)
          have Hcv := Aside0.mk (show v < V by omega)
          clear cv
          go_wp2
          go_roundw
          case rel => exact ⟨v + 1, by rw [w64 (by have := Hcv.out; have := HP.out; omega) (by have := Hcv.out; have := HP.out; omega)]; rfl, by rw [inW_walk (by have := Hct.out; have := HN.out; omega) (by have := Hcv.out; have := HP.out; omega)], ⟨Hcv.out⟩, HL3⟩
          case measure => rw [w64 (by have := Hcv.out; have := HP.out; omega) (by have := Hcv.out; have := HP.out; omega)]; have := Hcv.out; simp [intOf]; omega
        · have c2b : decide ((v : Int) < (V : Int)) = false := decide_eq_false cv
          have c2c : decide (v < V) = false := decide_eq_false (by omega)
          have hvV : v = V := by have := Hv.out; omega
          subst hvV
          have HAd := Aside0.mk (add_calls F (GT.words cc F i) (inW i v) wr HC.out HN.out.1 (by rw [← HVe.out]; exact inW_lt64 HN.out.1 i _ (Nat.le_refl _)) (by simp [GT.words]; have := Hct.out; have := HN.out; omega) HF.out HL3.out)
          have HPs := Aside0.mk (show GT.words cc F i ++ [putW F (GT.words cc F i).length (inW i v) (2 ^ 2 ^ N - 1)] = GT.words cc F (i + 1) by
            rw [GT.words_succ, show (GT.words cc F i).length = i by simp [GT.words], ← HCc.out, ← HVe.out, wline_in HN.out.1 ls os F Hct.out])
          clear cv
          go_wp2_with (go_at_call 89; (refine (HAd.out).mono ?_); rintro e w5 ⟨rfl, hl5⟩; rw [HPs.out] at hl5; have HL5 := Aside0.mk hl5; clear hl5)
          go_roundw
          case rel => exact ⟨i + 1, by rw [w64 (by have := Hct.out; have := HN.out; omega) (by have := Hct.out; have := HN.out; omega)]; rfl, ⟨Hct.out⟩, HL5⟩
          case measure => rw [w64 (by have := Hct.out; have := HN.out; omega) (by have := Hct.out; have := HN.out; omega)]; have := Hct.out; simp [intOf]; omega
    · have c1b : decide ((i : Int) < (N : Int)) = false := decide_eq_false ct
      have c1c : decide (i < N) = false := decide_eq_false (by omega)
      have hiN : N = i := by have := Hi.out; omega
      subst hiN
      obtain ⟨A0, c0, l0, _, _, _, _⟩ := HL.out.cells
      have m3 := pw_cell_below HL.out.b HM3.out
      clear ct
      go_wp2
      clear l0 m3
      go_loopw [48] (fun v48 w' => ∃ i : Nat, v48 = .int .i64 (i : Int) ∧ Aside0 (i ≤ ls.length) ∧ Aside0 (LAt w g F (GT.words cc F (N + i)) w')) (fun v _ => ls.length - (intOf v).toNat)
      case atStart => exact ⟨0, rfl, ⟨Nat.zero_le _⟩, HL⟩
      case round =>
        clear HL
        obtain ⟨i, rfl, Hi, HL⟩ := hrel
        by_cases ct : (i : Int) < (ls.length : Int)
        · have c1b : decide ((i : Int) < (ls.length : Int)) = true := decide_eq_true ct
          have c1c : decide (i < ls.length) = true := decide_eq_true (by omega)
          have hi : i < ls.length := by omega
          have Hct := Aside0.mk hi
          have q1 := eq_true ct
          have q2 := eq_true hi
          have q3 := eq_true (show (0 : Int) ≤ i by omega)
          obtain ⟨ad, ead, hx⟩ := HU.out i hi
          subst ead
          replace hx := pw_cell_below HL.out.b hx
          obtain ⟨k, a, b, hk, hk5, ha, hb, _⟩ := gate_nat (by have := HN1.out; omega) (gatesOk_at (okC_gates HOk.out).1 hi)
          have hwg := wline_gate HOk.out F hi hk
          rw [HCc.out] at hwg
          have hx2 : unitOf ls[i] = unitV (k : Int) (a : Int) (b : Int) := by rw [hk]; rfl
          rw [hx2] at hx
          have hla : a < (GT.words cc F (N + i)).length := by simp [GT.words]; omega
          have hlb : b < (GT.words cc F (N + i)).length := by simp [GT.words]; omega
          have hg1 : (GT.words cc F (N + i)).getD a 0 = GT.wline cc F a := GT.words_get _ _ ha
          have hg2 : (GT.words cc F (N + i)).getD b 0 = GT.wline cc F b := GT.words_get _ _ hb
          rw [← hg1, ← hg2] at hwg
          have h64 : W64 (GT.words cc F (N + i)) := by rw [← HCc.out]; exact words_W64 HN.out.1 ls os F _
          have HPs := Aside0.mk (show ∀ x, x = gwW k ((GT.words cc F (N + i)).getD a 0) ((GT.words cc F (N + i)).getD b 0) → GT.words cc F (N + i) ++ [putW F (GT.words cc F (N + i)).length x (2 ^ 2 ^ N - 1)] = GT.words cc F (N + (i + 1)) by
            intro x hx
            rw [← Nat.add_assoc, GT.words_succ, show (GT.words cc F (N + i)).length = N + i by simp [GT.words], hx, hwg])
          have HX := Aside0.mk (gwW_lt64 (k := k) (h64 a) (h64 b))
          have HLb := Aside0.mk (show (GT.words cc F (N + i)).length ≤ 22 by simp [GT.words]; have := HN.out; omega)
          have HAB := Aside0.mk (And.intro h64 (And.intro hla hlb))
          obtain ⟨A0, c0, l2, hr, _⟩ := HL.out.reads
          have HR := Aside0.mk hr
          generalize GT.words cc F (N + i) = l at *
          clear hwg hx2 hg1 hg2 hla hlb h64 hr hk ct ha hb
          have hkk : k = 0 ∨ k = 1 ∨ k = 2 ∨ k = 3 ∨ k = 4 ∨ k = 5 := by omega
          clear hk5
          rcases hkk with rfl | rfl | rfl | rfl | rfl | rfl
          · rw [show unitV ((0 : Nat) : Int) (a : Int) (b : Int) = .iface 122 (.agg #[.int .i64 (a : Int), .int .i64 (b : Int)]) from rfl] at hx
            obtain ⟨x, hxe⟩ : ∃ x, l.getD a 0 &&& l.getD b 0 = x := ⟨_, rfl⟩
            have HPx := Aside0.mk (HPs.out x hxe.symm)
            have hxl : x < 18446744073709551616 := by have := HX.out; rw [← hxe]; exact this
            have HXl := Aside0.mk hxl
            have hG := and_out a b A0 c0 l wr HR.out HAB.out.1 HAB.out.2.1 HAB.out.2.2
            rw [hxe] at hG
            have HG := Aside0.mk hG
            clear hG hxe hxl HPs
            go_wp2_with (first | (go_at_call 118; (refine (HG.out).mono ?_); rintro e w5 ⟨rfl, hb5⟩; have HL5 := Aside0.mk (HL.out.keep hb5); clear hb5) | (go_at_call 89; (refine (add_calls F l x _ HC.out HN.out.1 HXl.out HLb.out HF.out HL5.out).mono ?_); rintro e w6 ⟨rfl, hl6⟩; rw [HPx.out] at hl6; have HL6 := Aside0.mk hl6; clear hl6))
            go_roundw
            case rel => exact ⟨i + 1, by rw [w64 (by have := Hct.out; have := HN.out; omega) (by have := Hct.out; have := HN.out; omega)]; rfl, ⟨Hct.out⟩, HL6⟩
            case measure => rw [w64 (by have := Hct.out; have := HN.out; omega) (by have := Hct.out; have := HN.out; omega)]; have := Hct.out; simp [intOf]; omega
          · rw [show unitV ((1 : Nat) : Int) (a : Int) (b : Int) = .iface 123 (.agg #[.int .i64 (a : Int), .int .i64 (b : Int)]) from rfl] at hx
            obtain ⟨x, hxe⟩ : ∃ x, l.getD a 0 ||| l.getD b 0 = x := ⟨_, rfl⟩
            have HPx := Aside0.mk (HPs.out x hxe.symm)
            have hxl : x < 18446744073709551616 := by have := HX.out; rw [← hxe]; exact this
            have HXl := Aside0.mk hxl
            have hG := or_out a b A0 c0 l wr HR.out HAB.out.1 HAB.out.2.1 HAB.out.2.2
            rw [hxe] at hG
            have HG := Aside0.mk hG
            clear hG hxe hxl HPs
            go_wp2_with (first | (go_at_call 119; (refine (HG.out).mono ?_); rintro e w5 ⟨rfl, hb5⟩; have HL5 := Aside0.mk (HL.out.keep hb5); clear hb5) | (go_at_call 89; (refine (add_calls F l x _ HC.out HN.out.1 HXl.out HLb.out HF.out HL5.out).mono ?_); rintro e w6 ⟨rfl, hl6⟩; rw [HPx.out] at hl6; have HL6 := Aside0.mk hl6; clear hl6))
            go_roundw
            case rel => exact ⟨i + 1, by rw [w64 (by have := Hct.out; have := HN.out; omega) (by have := Hct.out; have := HN.out; omega)]; rfl, ⟨Hct.out⟩, HL6⟩
            case measure => rw [w64 (by have := Hct.out; have := HN.out; omega) (by have := Hct.out; have := HN.out; omega)]; have := Hct.out; simp [intOf]; omega
          · rw [show unitV ((2 : Nat) : Int) (a : Int) (b : Int) = .iface 124 (.agg #[.int .i64 (a : Int), .int .i64 (b : Int)]) from rfl] at hx
            obtain ⟨x, hxe⟩ : ∃ x, l.getD a 0 ^^^ l.getD b 0 = x := ⟨_, rfl⟩
            have HPx := Aside0.mk (HPs.out x hxe.symm)
            have hxl : x < 18446744073709551616 := by have := HX.out; rw [← hxe]; exact this
            have HXl := Aside0.mk hxl
            have hG := xor_out a b A0 c0 l wr HR.out HAB.out.1 HAB.out.2.1 HAB.out.2.2
            rw [hxe] at hG
            have HG := Aside0.mk hG
            clear hG hxe hxl HPs
            go_wp2_with (first | (go_at_call 120; (refine (HG.out).mono ?_); rintro e w5 ⟨rfl, hb5⟩; have HL5 := Aside0.mk (HL.out.keep hb5); clear hb5) | (go_at_call 89; (refine (add_calls F l x _ HC.out HN.out.1 HXl.out HLb.out HF.out HL5.out).mono ?_); rintro e w6 ⟨rfl, hl6⟩; rw [HPx.out] at hl6; have HL6 := Aside0.mk hl6; clear hl6))
            go_roundw
            case rel => exact ⟨i + 1, by rw [w64 (by have := Hct.out; have := HN.out; omega) (by have := Hct.out; have := HN.out; omega)]; rfl, ⟨Hct.out⟩, HL6⟩
            case measure => rw [w64 (by have := Hct.out; have := HN.out; omega) (by have := Hct.out; have := HN.out; omega)]; have := Hct.out; simp [intOf]; omega
          · rw [show unitV ((3 : Nat) : Int) (a : Int) (b : Int) = .iface 116 (.agg #[.iface 122 (.agg #[.int .i64 (a : Int), .int .i64 (b : Int)])]) from rfl] at hx
            obtain ⟨x, hxe⟩ : ∃ x, 18446744073709551615 ^^^ (l.getD a 0 &&& l.getD b 0) = x := ⟨_, rfl⟩
            have HPx := Aside0.mk (HPs.out x hxe.symm)
            have hxl : x < 18446744073709551616 := by have := HX.out; rw [← hxe]; exact this
            have HXl := Aside0.mk hxl
            have hG := opp_and_out a b A0 c0 l wr HR.out HAB.out.1 HAB.out.2.1 HAB.out.2.2
            rw [hxe] at hG
            have HG := Aside0.mk hG
            clear hG hxe hxl HPs
            go_wp2_with (first | (go_at_call 116; (refine (HG.out).mono ?_); rintro e w5 ⟨rfl, hb5⟩; have HL5 := Aside0.mk (HL.out.keep hb5); clear hb5) | (go_at_call 89; (refine (add_calls F l x _ HC.out HN.out.1 HXl.out HLb.out HF.out HL5.out).mono ?_); rintro e w6 ⟨rfl, hl6⟩; rw [HPx.out] at hl6; have HL6 := Aside0.mk hl6; clear hl6))
            go_roundw
            case rel => exact ⟨i + 1, by rw [w64 (by have := Hct.out; have := HN.out; omega) (by have := Hct.out; have := HN.out; omega)]; rfl, ⟨Hct.out⟩, HL6⟩
            case measure => rw [w64 (by have := Hct.out; have := HN.out; omega) (by have := Hct.out; have := HN.out; omega)]; have := Hct.out; simp [intOf]; omega
          · rw [show unitV ((4 : Nat) : Int) (a : Int) (b : Int) = .iface 116 (.agg #[.iface 123 (.agg #[.int .i64 (a : Int), .int .i64 (b : Int)])]) from rfl] at hx
            obtain ⟨x, hxe⟩ : ∃ x, 18446744073709551615 ^^^ (l.getD a 0 ||| l.getD b 0) = x := ⟨_, rfl⟩
            have HPx := Aside0.mk (HPs.out x hxe.symm)
            have hxl : x < 18446744073709551616 := by have := HX.out; rw [← hxe]; exact this
            have HXl := Aside0.mk hxl
            have hG := opp_or_out a b A0 c0 l wr HR.out HAB.out.1 HAB.out.2.1 HAB.out.2.2
            rw [hxe] at hG
            have HG := Aside0.mk hG
            clear hG hxe hxl HPs
            go_wp2_with (first | (go_at_call 116; (refine (HG.out).mono ?_); rintro e w5 ⟨rfl, hb5⟩; have HL5 := Aside0.mk (HL.out.keep hb5); clear hb5) | (go_at_call 89; (refine (add_calls F l x _ HC.out HN.out.1 HXl.out HLb.out HF.out HL5.out).mono ?_); rintro e w6 ⟨rfl, hl6⟩; rw [HPx.out] at hl6; have HL6 := Aside0.mk hl6; clear hl6))
            go_roundw
            case rel => exact ⟨i + 1, by rw [w64 (by have := Hct.out; have := HN.out; omega) (by have := Hct.out; have := HN.out; omega)]; rfl, ⟨Hct.out⟩, HL6⟩
            case measure => rw [w64 (by have := Hct.out; have := HN.out; omega) (by have := Hct.out; have := HN.out; omega)]; have := Hct.out; simp [intOf]; omega
          · rw [show unitV ((5 : Nat) : Int) (a : Int) (b : Int) = .iface 118 (.agg #[.int .i64 (a : Int)]) from rfl] at hx
            obtain ⟨x, hxe⟩ : ∃ x, 18446744073709551615 ^^^ l.getD a 0 = x := ⟨_, rfl⟩
            have HPx := Aside0.mk (HPs.out x hxe.symm)
            have hxl : x < 18446744073709551616 := by have := HX.out; rw [← hxe]; exact this
            have HXl := Aside0.mk hxl
            have hG := not_out a A0 c0 l wr HR.out HAB.out.1 HAB.out.2.1
            rw [hxe] at hG
            have HG := Aside0.mk hG
            clear hG hxe hxl HPs
            go_wp2_with (first | (go_at_call 117; (refine (HG.out).mono ?_); rintro e w5 ⟨rfl, hb5⟩; have HL5 := Aside0.mk (HL.out.keep hb5); clear hb5) | (go_at_call 89; (refine (add_calls F l x _ HC.out HN.out.1 HXl.out HLb.out HF.out HL5.out).mono ?_); rintro e w6 ⟨rfl, hl6⟩; rw [HPx.out] at hl6; have HL6 := Aside0.mk hl6; clear hl6))
            go_roundw
            case rel => exact ⟨i + 1, by rw [w64 (by have := Hct.out; have := HN.out; omega) (by have := Hct.out; have := HN.out; omega)]; rfl, ⟨Hct.out⟩, HL6⟩
            case measure => rw [w64 (by have := Hct.out; have := HN.out; omega) (by have := Hct.out; have := HN.out; omega)]; have := Hct.out; simp [intOf]; omega
        · have c1b : decide ((i : Int) < (ls.length : Int)) = false := decide_eq_false ct
          have c1c : decide (i < ls.length) = false := decide_eq_false (by omega)
          have hiN : ls.length = i := by have := Hi.out; omega
          subst hiN
          obtain ⟨A0, c0, l0, _, _, _, _⟩ := HL.out.cells
          have m2 := pw_cell_below HL.out.b HM2.out
          clear ct
          go_wp2
          clear l0 m2
          have HBw := Aside0.mk HL.out.b
          have HLr := Aside0.mk HL.out.reads
          clear HL
          generalize wr = wL at *
          have hB0 := Aside0.mk (Below.refl wL.heap.size wL)
          go_loopw [12, 64] (fun v12 v64 w' => ∃ i : Nat, v64 = .int .i64 (i : Int) ∧ Aside0 (i ≤ os.length) ∧ Aside0 (Kd.R (Kd.int .u64) 74 w' wL.heap.size (fun _ => True) v12 (nI ((GT.outsW cc F).take i))) ∧ Aside0 (Below wL.heap.size wL w')) (fun _ v _ => os.length - (intOf v).toNat)
          case atStart => exact ⟨0, rfl, ⟨Nat.zero_le _⟩, ⟨Kd.R_nil _ _ _ _ _⟩, hB0⟩
          case round =>
            clear hB0
            obtain ⟨i, rfl, Hi, HR, HB⟩ := hrel
            by_cases ct : (i : Int) < (os.length : Int)
            · have c1b : decide ((i : Int) < (os.length : Int)) = true := decide_eq_true ct
              have c1c : decide (i < os.length) = true := decide_eq_true (by omega)
              have hi : i < os.length := by omega
              have Hct := Aside0.mk hi
              have q1 := eq_true ct
              have q2 := eq_true hi
              have q3 := eq_true (show (0 : Int) ≤ i by omega)
              obtain ⟨ad, ead, hx⟩ := Kd.at_int (Kd.C_below (Kd.C_below HOs.out.1 HBw.out) HB.out) (i : Int) (by omega) ct
              subst ead
              rw [Int.toNat_natCast, rd_get _ _ hi] at hx
              have hon := out_nat HOk.out (List.getElem_mem hi)
              obtain ⟨o, ho⟩ := Int.eq_ofNat_of_zero_le hon.1
              rw [ho] at hx hon
              have hol : o < N + ls.length := by omega
              obtain ⟨A0, c0, l2, hr, _⟩ := HLr.out
              have hwl : (nI (GT.words cc F (N + ls.length))).length = N + ls.length := by rw [nI_length]; simp [GT.words]
              rw [hwl] at l2 hr
              obtain ⟨ad2, ead2, hy⟩ := Kd.at_int (Kd.C_below hr HB.out) (o : Int) (by omega) (by omega)
              subst ead2
              rw [rd_nI, Int.toNat_natCast, GT.words_get _ _ hol] at hy
              replace l2 := pw_cell_below HB.out l2
              have q4 := eq_true (show (o : Int) < ((N + ls.length : Nat) : Int) by omega)
              have q5 := eq_true hol
              have q6 := eq_true (show (0 : Int) ≤ o by omega)
              have htk : nI ((GT.outsW cc F).take i) ++ [((GT.wline cc F o : Nat) : Int)] = nI ((GT.outsW cc F).take (i + 1)) := by
                have hl : i < (GT.outsW cc F).length := by rw [← HCc.out]; simp [GT.outsW, toC, hi]
                rw [List.take_succ_eq_append_getElem hl, nI_snoc]
                congr 2
                have : (GT.outsW cc F)[i] = GT.wline cc F o := by
                  have e : (GT.outsW cc F)[i]? = some (GT.wline cc F o) := by
                    rw [← HCc.out]
                    simp [GT.outsW, toC, hi, ho]
                  rw [List.getElem?_eq_getElem hl] at e
                  injection e
                rw [this]
              have HTK := Aside0.mk htk
              have hlen : (nI ((GT.outsW cc F).take i)).length < 17592186044416 := by rw [nI_length, List.length_take]; have := HN.out; omega
              have HLen := Aside0.mk hlen
              generalize GT.wline cc F o = x at *
              obtain ⟨M, hM⟩ : ∃ M, N + ls.length = M := ⟨_, rfl⟩
              rw [hM] at l2 q4 q5
              clear ct hi hon ho hol hwl hr htk hlen hM
              go_wp2_with (first | ((with_reducible refine gate_builtin (b := .append) (xs := #[.tmp 68, .tmp 73]) rfl ?_); at_builtin; refine Kd.R_append (Kd.int .u64) (w0 := wL) wL.heap.size rfl (.tmp 68) (.tmp 73) 72 74 (.int .u64 0) 8 rfl Try.underlying72 info74 rfl (by decide) (by omega) _ (nI ((GT.outsW cc F).take i)) (x : Int) [.int .u64 (x : Int)] (fun _ => True) (fun _ => False) rfl rfl ?aP (fun _ hk => hk.elim) ?aF ?aO ?aB ?aS ?aL ?_; (case aP => exact rfl); (case aB => exact (by repeat (first | (with_reducible first | exact HB.out | apply below_alloc | apply pw_below_drewN | apply below_drew1) | exact HB.out))); (case aF => exact (fun _ _ => trivial)); (case aO => exact (by (with_reducible repeat (first | apply Kd.R_alloc | apply Kd.R_drewN | apply Kd.R_drew)); exact HR.out)); (case aS => exact (below_size (by repeat (first | (with_reducible first | exact HB.out | apply below_alloc | apply pw_below_drewN | apply below_drew1) | exact HB.out)))); (case aL => have := HLen.out; omega); intro v243 w7 ho hb hg hat; rw [HTK.out] at ho; have n0_ := Aside0.mk (hb); have n1_ := Aside0.mk (ho); clear HB; clear HR; have HB := n0_; have HR := n1_; clear n0_ n1_; clear ho hb hg hat))
              go_roundw
              case rel => exact ⟨i + 1, by rw [w64 (by have := Hct.out; have := HN.out; omega) (by have := Hct.out; have := HN.out; omega)]; rfl, ⟨Hct.out⟩, HR, HB⟩
              case measure => rw [w64 (by have := Hct.out; have := HN.out; omega) (by have := Hct.out; have := HN.out; omega)]; have := Hct.out; simp [intOf]; omega
            · have c1b : decide ((i : Int) < (os.length : Int)) = false := decide_eq_false ct
              have c1c : decide (i < os.length) = false := decide_eq_false (by omega)
              have he : (GT.outsW cc F).take i = GT.outsW cc F := List.take_of_length_le (by rw [← HCc.out]; simp [GT.outsW, toC]; omega)
              have HE := Aside0.mk he
              clear ct he
              go_wp2
              go_ret
              exact ⟨_, rfl, by rw [← HE.out]; exact R_low HR.out HBw.out.size, HBw.out.trans (HB.out.mono HBw.out.size)⟩
end Go.Proofs.Ytelfalicickelaa.P
namespace Go.Proofs.Ytelfalicickelaa.P
open Go.RowKit Go.Proofs.YtelfalicickelaaW.PrintWords Go.Proofs.YtelfalicickelaaW.PrintLast Go.Proofs.YtelfalicickelaaW.PrintMore
attribute [local go_sem] max2_int max_two
set_option linter.unusedVariables false
set_option linter.unusedSimpArgs false
def gate_members.l0 : Nat → Int → List Int → Int → Option (List Int)
  | 0, _, _, _ => none
  | k + 1, x0, x3, x4 => if 0 ≤ x4 then (if (shr .u64 x0 x4) > 0 then (if (Go.bits .and .u64 x0 (shl .u64 1 x4)) = 0 then (gate_members.l0 k x0 x3 (wrap64 (x4 + 1))) else (if x3.length < 17592186044416 then (gate_members.l0 k x0 (x3 ++ [x4]) (wrap64 (x4 + 1))) else (none))) else (some x3)) else (none)
def gate_members.f (k : Nat) (a0 : Int) : Option (List Int) := gate_members.l0 k a0 ([] : List Int) 0
set_option maxHeartbeats 8000000 in
set_option maxRecDepth 100000 in
theorem gate_members.calls (k : Nat) (a0 : Int) (r : List Int) (w : World) (h : gate_members.f k a0 = some r) :
    Calls Try.prog 68 #[.int .u64 a0] w fun e w' => ∃ v0_ : Value, e = .returned (v0_) ∧ Kd.R (Kd.int .i64) 3 w' w.heap.size (fun _ => True) v0_ r ∧ Below w.heap.size w w' := by
  have HB := Aside0.mk (Below.refl w.heap.size w)
  have H : (gate_members.l0 k a0 ([] : List Int) 0) = some r := h
  clear h
  have H' := Aside0.mk H
  clear H
  go_enter Try.func68, Try.ntmps68
  go_wp2
  go_loopg [3, 4] k (fun kq v3 v4 w' => ∃ (x3_1 : List Int) (x4_1 : Int), v4 = .int .i64 x4_1 ∧ Aside0 (gate_members.l0 kq a0 x3_1 x4_1 = some r) ∧ Aside0 (kq ≤ k) ∧ Aside0 (Kd.R (Kd.int .i64) 3 w' w.heap.size (fun _ => True) v3 x3_1) ∧ Aside0 (Below w.heap.size w w'))
  case atStart => exact ⟨(([] : List Int)), (0), (by first | rfl | (simp; done) | (simp [*]; done)), H', ⟨Nat.le_refl _⟩, ⟨by first | exact Kd.R_nil _ _ _ _ _ | exact Kd.N_nil _ _ _ _ _ | exact Kd.V_nil _ _ _ _ _ | exact Kd.Q_nil _ _ _ _ _ | exact Kd.S_nil _ _ _ _ _⟩, ⟨by repeat (first | (with_reducible first | exact HB.out | apply below_alloc | apply pw_below_drewN | apply below_drew1) | exact HB.out)⟩⟩
  case round =>
    clear H'
    obtain ⟨x3_1, x4_1, rfl, HA, HK1, HO_3, HB⟩ := hrel
    cases gk with
    | zero => exact absurd HA.out (by simp [gate_members.l0])
    | succ k1 =>
      have H := HA.out
      clear HA
      simp only [gate_members.l0] at H
      by_cases c2 : 0 ≤ x4_1
      · rw [if_pos c2] at H
        have c2b0 := eq_true c2
        have c2b1 : decide (0 ≤ x4_1) = true := decide_eq_true c2
        clear c2
        obtain ⟨ji3, hji3⟩ : ∃ j_ : Int, (shr .u64 a0 x4_1) = j_ := ⟨_, rfl⟩
        replace H : (if (ji3) > 0 then (if (Go.bits .and .u64 a0 (shl .u64 1 x4_1)) = 0 then (gate_members.l0 k1 a0 x3_1 (wrap64 (x4_1 + 1))) else (if x3_1.length < 17592186044416 then (gate_members.l0 k1 a0 (x3_1 ++ [x4_1]) (wrap64 (x4_1 + 1))) else (none))) else (some x3_1)) = some r := by first | (rw [hji3] at H; exact H) | (simp only [hji3] at H ⊢; exact H)
        have hji3_ : (a0 / 2 ^ min x4_1.toNat 64) = ji3 := hji3
        have hji3z : x4_1 ≤ 64 → (a0 / 2 ^ x4_1.toNat) = ji3 := shr_small hji3
        by_cases c4 : (ji3) > 0
        · rw [if_pos c4] at H
          have c4b0 : decide (0 < (ji3)) = true := decide_eq_true c4
          clear c4
          have c5b0 := eq_true (of_decide_eq_true (by first | (with_reducible assumption) | assumption) : 0 ≤ x4_1)
          obtain ⟨ji6, hji6⟩ : ∃ j_ : Int, (shl .u64 1 x4_1) = j_ := ⟨_, rfl⟩
          replace H : (if (Go.bits .and .u64 a0 (ji6)) = 0 then (gate_members.l0 k1 a0 x3_1 (wrap64 (x4_1 + 1))) else (if x3_1.length < 17592186044416 then (gate_members.l0 k1 a0 (x3_1 ++ [x4_1]) (wrap64 (x4_1 + 1))) else (none))) = some r := by first | (rw [hji6] at H; exact H) | (simp only [hji6] at H ⊢; exact H)
          have hji6_ : (IntKind.u64.wrap (1 * 2 ^ min x4_1.toNat 64)) = ji6 := hji6
          have hji6z : x4_1 ≤ 64 → (IntKind.u64.wrap (1 * 2 ^ x4_1.toNat)) = ji6 := shl_small hji6
          have hji6u : (IntKind.u64.wrap (2 ^ min x4_1.toNat 64)) = ji6 := by have h_ := hji6_; rw [Int.one_mul] at h_; exact h_
          have hji6v : x4_1 ≤ 64 → (IntKind.u64.wrap (2 ^ x4_1.toNat)) = ji6 := fun hle_ => by have h_ := hji6z hle_; rw [Int.one_mul] at h_; exact h_
          by_cases c7 : (Go.bits .and .u64 a0 (ji6)) = 0
          · rw [if_pos c7] at H
            have c7b0 : ((Go.bits .and .u64 a0 (ji6)) == 0) = true := beq_iff_eq.mpr c7
            have c7b1 : ((Go.bits .and .u64 a0 (ji6)) != 0) = false := bne_eq_false_iff_eq.mpr c7
            clear c7
            have H' := Aside0.mk H
            clear H
            go_wp2
            go_roundg k1
            case measure => have := HK1.out; omega
            case rel => exact ⟨(x3_1), (wrap64 (x4_1 + 1)), (by first | rfl | (simp; done) | (simp [*]; done)), H', ⟨by have := HK1.out; omega⟩, ⟨by (with_reducible repeat (first | apply Kd.R_alloc | apply Kd.R_drewN | apply Kd.R_drew)); first | exact HO_3.out | exact Kd.R_mono HO_3.out (fun k_ h_ => ne_own_len h_)⟩, ⟨by repeat (first | (with_reducible first | exact HB.out | apply below_alloc | apply pw_below_drewN | apply below_drew1) | exact HB.out)⟩⟩
          · rw [if_neg c7] at H
            have c7b0 : ((Go.bits .and .u64 a0 (ji6)) == 0) = false := beq_eq_false_iff_ne.mpr c7
            have c7b1 : ((Go.bits .and .u64 a0 (ji6)) != 0) = true := bne_iff_ne.mpr c7
            by_cases c8 : x3_1.length < 17592186044416
            · rw [if_pos c8] at H
              have LMc8 := Aside0.mk c8
              clear c8
              obtain ⟨y101, hy101⟩ : ∃ y_ : List Int, y_ = (x3_1 ++ [x4_1]) := ⟨_, rfl⟩
              replace H : (gate_members.l0 k1 a0 y101 (wrap64 (x4_1 + 1))) = some r := by first | (rw [hy101]; with_reducible exact H) | (have H2_ := (Option.bind_some _ _).symm.trans H; rw [hy101]; with_reducible exact H2_) | (have H2_ := (Option.bind_some _ _).symm.trans H; with_reducible exact H2_) | with_reducible exact H | (rw [hy101]; exact H) | exact H
              have Ny101 := Aside0.mk hy101
              clear hy101
              have H' := Aside0.mk H
              clear H
              go_wp2_with (first | ((with_reducible refine gate_builtin (b := .append) (xs := #[.tmp 16, .tmp 18]) rfl ?_); at_builtin; refine Kd.R_append (Kd.int .i64) (w0 := w) w.heap.size rfl (.tmp 16) (.tmp 18) 23 3 (.int .i64 0) 8 rfl Try.underlying23 info3 rfl (by decide) (by omega) u3 x3_1 x4_1 [.int .i64 x4_1] (fun _ => True) (fun _ => False) rfl rfl ?aP (fun _ hk => hk.elim) ?aF ?aO ?aB ?aS ?aL ?_; (case aP => exact rfl); (case aB => exact (by repeat (first | (with_reducible first | exact HB.out | apply below_alloc | apply pw_below_drewN | apply below_drew1) | exact HB.out))); (case aF => exact (fun _ _ => trivial)); (case aO => exact (by (with_reducible repeat (first | apply Kd.R_alloc | apply Kd.R_drewN | apply Kd.R_drew)); exact HO_3.out)); (case aS => exact (below_size (by repeat (first | (with_reducible first | exact HB.out | apply below_alloc | apply pw_below_drewN | apply below_drew1) | exact HB.out)))); (case aL => have := LMc8.out; omega); intro v102 w9 ho hb hg hat; rw [← Ny101.out] at ho; have n0_ := Aside0.mk (hb); have n1_ := Aside0.mk (ho); clear HB; clear HO_3; have HB := n0_; have HO103 := n1_; clear n0_ n1_; clear ho hb hg hat))
              go_roundg k1
              case measure => have := HK1.out; omega
              case rel => exact ⟨(y101), (wrap64 (x4_1 + 1)), (by first | rfl | (simp; done) | (simp [*]; done)), H', ⟨by have := HK1.out; omega⟩, ⟨by (with_reducible repeat (first | apply Kd.R_alloc | apply Kd.R_drewN | apply Kd.R_drew)); first | exact HO103.out | exact Kd.R_mono HO103.out (fun k_ h_ => ne_own_len h_)⟩, ⟨by repeat (first | (with_reducible first | exact HB.out | apply below_alloc | apply pw_below_drewN | apply below_drew1) | exact HB.out)⟩⟩
            · rw [if_neg c8] at H
              exact absurd H (by simp)
        · rw [if_neg c4] at H
          have c4b0 : decide (0 < (ji3)) = false := decide_eq_false c4
          clear c4
          obtain rfl := Option.some.inj H
          go_wp2
          go_ret
          exact ⟨_, by first | rfl | (simp [errW_none, errW_some] <;> rfl) | (simp only [← hji3]; first | rfl | (simp [errW_none, errW_some] <;> rfl)) | (simp [*, errW_none, errW_some] <;> rfl), by (with_reducible repeat (first | apply Kd.R_alloc | apply Kd.R_drewN | apply Kd.R_drew)); exact HO_3.out, by repeat (first | (with_reducible first | exact HB.out | apply below_alloc | apply pw_below_drewN | apply below_drew1) | exact HB.out)⟩
      · rw [if_neg c2] at H
        exact absurd H (by simp)
end Go.Proofs.Ytelfalicickelaa.P
namespace Go.Proofs.Ytelfalicickelaa.P
open Go.RowKit Go.Proofs.YtelfalicickelaaW.PrintWords Go.Proofs.YtelfalicickelaaW.PrintLast Go.Proofs.YtelfalicickelaaW.PrintMore
attribute [local go_sem] max2_int max_two
set_option linter.unusedVariables false
set_option linter.unusedSimpArgs false
def gate_reply.l0 : Nat → Int → Int → List Int → Int → Int → Option (Int)
  | 0, _, _, _, _, _ => none
  | k + 1, x1, x5, x8, x9, x10 => if x10 < x9 then (if 0 ≤ x10 then (if x10 < (x8.length : Int) then (if 0 ≤ x1 then (gate_reply.l0 k x1 (Go.bits .or .i64 x5 (shl .i64 (wrap64 (Go.bits .and .u64 (shr .u64 (rd x8 x10) x1) 1)) x10)) x8 x9 (wrap64 (x10 + 1))) else (none)) else (none)) else (none)) else (some x5)
def gate_reply.f (k : Nat) (l0 : List Int) (a1 : Int) : Option (Int) := gate_reply.l0 k a1 0 l0 (l0.length : Int) 0
set_option maxHeartbeats 8000000 in
set_option maxRecDepth 100000 in
theorem gate_reply.calls (k : Nat) (A0 : Option Addr) (c0 : Nat) (l0 : List Int) (a1 : Int) (r : Int) (w : World) (hr0 : Kd.C (Kd.int .u64) w A0 l0.length l0) (hc0 : l0.length ≤ c0) (h : gate_reply.f k l0 a1 = some r) :
    Calls Try.prog 81 #[.slice A0 l0.length c0, .int .i64 a1] w fun e w' => e = .returned (.int .i64 r) ∧ Drawn0 w w' := by
  have HR0 := Aside0.mk hr0
  have HC0 := Aside0.mk hc0
  clear hr0 hc0
  have H : (gate_reply.l0 k a1 0 l0 (l0.length : Int) 0) = some r := h
  clear h
  have H' := Aside0.mk H
  clear H
  go_enter Try.func81, Try.ntmps81
  go_wp2
  go_loopg [5, 10] k (fun kq v5 v10 w' => ∃ (x5_1 : Int) (x10_1 : Int), v5 = .int .i64 x5_1 ∧ v10 = .int .i64 x10_1 ∧ Aside0 (gate_reply.l0 kq a1 x5_1 l0 (l0.length : Int) x10_1 = some r) ∧ Aside0 (kq ≤ k) ∧ Drawn0 w w')
  case atStart => exact ⟨(0), (0), (by first | rfl | (simp; done) | (simp [*]; done)), (by first | rfl | (simp; done) | (simp [*]; done)), H', ⟨Nat.le_refl _⟩, by repeat (first | exact Drawn0.refl _ | apply Drawn0.step)⟩
  case round =>
    clear H'
    try clear p2
    obtain ⟨x5_1, x10_1, rfl, rfl, HA, HK1, ⟨m1, rfl⟩⟩ := hrel
    cases gk with
    | zero => exact absurd HA.out (by simp [gate_reply.l0])
    | succ k1 =>
      have H := HA.out
      clear HA
      simp only [gate_reply.l0] at H
      by_cases c3 : x10_1 < (l0.length : Int)
      · rw [if_pos c3] at H
        have c3b0 : decide (x10_1 < (l0.length : Int)) = true := decide_eq_true c3
        clear c3
        by_cases c4 : 0 ≤ x10_1
        · rw [if_pos c4] at H
          have c4b0 : decide (0 ≤ x10_1) = true := decide_eq_true c4
          clear c4
          by_cases c5 : x10_1 < (l0.length : Int)
          · rw [if_pos c5] at H
            have c5b0 : decide (x10_1 < (l0.length : Int)) = true := decide_eq_true c5
            clear c5
            by_cases c6 : 0 ≤ a1
            · rw [if_pos c6] at H
              have c6b0 := eq_true c6
              have c6b1 : decide (0 ≤ a1) = true := decide_eq_true c6
              clear c6
              obtain ⟨ji7, hji7⟩ : ∃ j_ : Int, (shr .u64 (rd l0 x10_1) a1) = j_ := ⟨_, rfl⟩
              replace H : (gate_reply.l0 k1 a1 (Go.bits .or .i64 x5_1 (shl .i64 (wrap64 (Go.bits .and .u64 (ji7) 1)) x10_1)) l0 (l0.length : Int) (wrap64 (x10_1 + 1))) = some r := by first | (rw [hji7] at H; exact H) | (simp only [hji7] at H ⊢; exact H)
              have hji7_ : ((rd l0 x10_1) / 2 ^ min a1.toNat 64) = ji7 := hji7
              have hji7z : a1 ≤ 64 → ((rd l0 x10_1) / 2 ^ a1.toNat) = ji7 := shr_small hji7
              have c8b0 := eq_true (of_decide_eq_true (by first | (with_reducible assumption) | assumption) : 0 ≤ x10_1)
              obtain ⟨ji9, hji9⟩ : ∃ j_ : Int, (shl .i64 (wrap64 (Go.bits .and .u64 (ji7) 1)) x10_1) = j_ := ⟨_, rfl⟩
              replace H : (gate_reply.l0 k1 a1 (Go.bits .or .i64 x5_1 (ji9)) l0 (l0.length : Int) (wrap64 (x10_1 + 1))) = some r := by first | (rw [hji9] at H; exact H) | (simp only [hji9] at H ⊢; exact H)
              have hji9_ : (IntKind.i64.wrap ((wrap64 (Go.bits .and .u64 (ji7) 1)) * 2 ^ min x10_1.toNat 64)) = ji9 := hji9
              have hji9z : x10_1 ≤ 64 → (IntKind.i64.wrap ((wrap64 (Go.bits .and .u64 (ji7) 1)) * 2 ^ x10_1.toNat)) = ji9 := shl_small hji9
              have hji9y : (wrap64 ((wrap64 (Go.bits .and .u64 (ji7) 1)) * 2 ^ min x10_1.toNat 64)) = ji9 := (i64_w _).symm.trans hji9_
              have hji9x : x10_1 ≤ 64 → (wrap64 ((wrap64 (Go.bits .and .u64 (ji7) 1)) * 2 ^ x10_1.toNat)) = ji9 := fun h_ => (i64_w _).symm.trans (hji9z h_)
              have H' := Aside0.mk H
              clear H
              have p104 : 0 ≤ (x10_1 : Int) := of_decide_eq_true (by first | (with_reducible assumption) | assumption)
              have q104 : x10_1 < (l0.length : Int) := of_decide_eq_true (by first | (with_reducible assumption) | assumption)
              obtain ⟨ad104, e104, hx104_0⟩ := Kd.at_int HR0.out x10_1 p104 q104
              cases e104
              replace p104 := eq_true p104
              replace q104 := eq_true q104
              go_wp2
              go_roundg k1
              case measure => have := HK1.out; omega
              case rel => exact ⟨(Go.bits .or .i64 x5_1 (ji9)), (wrap64 (x10_1 + 1)), (by first | rfl | (simp; done) | (simp only [← hji9] <;> (first | rfl | simp)) | (simp [*]; done)), (by first | rfl | (simp; done) | (simp [*]; done)), H', ⟨by have := HK1.out; omega⟩, by repeat (first | exact Drawn0.refl _ | apply Drawn0.step)⟩
            · rw [if_neg c6] at H
              exact absurd H (by simp)
          · rw [if_neg c5] at H
            exact absurd H (by simp)
        · rw [if_neg c4] at H
          exact absurd H (by simp)
      · rw [if_neg c3] at H
        have c3b0 : decide (x10_1 < (l0.length : Int)) = false := decide_eq_false c3
        clear c3
        obtain rfl := Option.some.inj H
        go_wp2
        go_ret
        exact ⟨by first | rfl | (simp; done) | (simp [*]; done), by repeat (first | exact Drawn0.refl _ | apply Drawn0.step)⟩
end Go.Proofs.Ytelfalicickelaa.P
namespace Go.Proofs.Ytelfalicickelaa.GT
def hit (vs : List Nat) (s : Nat) : Prop := ∃ v, v ∈ vs ∧ s.testBit v = true
def Cov (ok : Nat → Prop) (S : List Nat) (k : Nat) : Prop := ∃ vs : List Nat, vs.length ≤ k ∧ (∀ v, v ∈ vs → ok v) ∧ ∀ s, s ∈ S → hit vs s
def without (S : List Nat) (v : Nat) : List Nat := S.filter fun s => !s.testBit v
def memb (x : Nat) : List Nat := (List.range 64).filter fun i => x.testBit i
theorem mem_memb {x : Nat} (hx : x < 2 ^ 64) {v : Nat} : v ∈ memb x ↔ x.testBit v = true := by
  unfold memb
  rw [List.mem_filter, List.mem_range]
  refine ⟨fun h => h.2, fun h => ⟨?_, h⟩⟩
  by_cases hv : v < 64
  · exact hv
  · rw [Nat.testBit_lt_two_pow (Nat.lt_of_lt_of_le hx (Nat.pow_le_pow_right (by decide) (by omega)))] at h
    cases h
theorem mem_without {S : List Nat} {v s : Nat} : s ∈ without S v ↔ s ∈ S ∧ s.testBit v = false := by
  unfold without
  rw [List.mem_filter]
  simp
theorem hit_erase {vs : List Nat} {v s : Nat} (h : hit vs s) (hv : s.testBit v = false) : hit (vs.erase v) s := by
  obtain ⟨u, hu, hs⟩ := h
  refine ⟨u, (List.mem_erase_of_ne ?_).2 hu, hs⟩
  intro e
  rw [e, hv] at hs
  cases hs
theorem Cov.step {ok : Nat → Prop} {S : List Nat} {k v : Nat} (hv : ok v) (h : Cov ok (without S v) k) : Cov ok S (k + 1) := by
  obtain ⟨vs, h1, h2, h3⟩ := h
  refine ⟨v :: vs, by simp; omega, fun u hu => ?_, fun s hs => ?_⟩
  · rcases List.mem_cons.1 hu with rfl | hu
    · exact hv
    · exact h2 u hu
  · by_cases hb : s.testBit v = true
    · exact ⟨v, by simp, hb⟩
    · obtain ⟨u, hu, hs⟩ := h3 s (mem_without.2 ⟨hs, by simpa using hb⟩)
      exact ⟨u, by simp [hu], hs⟩
theorem Cov.unstep {ok : Nat → Prop} {S : List Nat} {k : Nat} {s : Nat} (hs : s ∈ S) (h : Cov ok S k) : ∃ j v, k = j + 1 ∧ s.testBit v = true ∧ ok v ∧ Cov ok (without S v) j := by
  obtain ⟨vs, h1, h2, h3⟩ := h
  obtain ⟨v, hv, hb⟩ := h3 s hs
  have hl := List.length_erase_of_mem hv
  have hp := List.length_pos_of_mem hv
  refine ⟨k - 1, v, by omega, hb, h2 v hv, vs.erase v, by omega, fun u hu => h2 u (List.mem_of_mem_erase hu), fun t ht => ?_⟩
  obtain ⟨ht1, ht2⟩ := mem_without.1 ht
  exact hit_erase (h3 t ht1) ht2
theorem cov_nil (ok : Nat → Prop) (k : Nat) : Cov ok [] k := ⟨[], Nat.zero_le _, fun v h => by simp at h, fun s h => by simp at h⟩
theorem cov_zero {ok : Nat → Prop} {S : List Nat} (h : Cov ok S 0) : S = [] := by
  obtain ⟨vs, h1, _, h3⟩ := h
  have : vs = [] := List.length_eq_zero_iff.1 (by omega)
  subst this
  rw [List.eq_nil_iff_forall_not_mem]
  intro s hs
  obtain ⟨v, hv, _⟩ := h3 s hs
  simp at hv
theorem Cov.mono {ok ok' : Nat → Prop} {S : List Nat} {k k' : Nat} (h : Cov ok S k) (ho : ∀ v, ok v → ok' v) (hk : k ≤ k') : Cov ok' S k' := by
  obtain ⟨vs, h1, h2, h3⟩ := h
  exact ⟨vs, by omega, fun v hv => ho v (h2 v hv), h3⟩
def canP (pick : List Nat → Nat → Nat) (a : Nat) : Nat → List Nat → Bool
  | 0, S => S.isEmpty
  | k + 1, S => S.isEmpty || (memb (pick S a &&& a)).any fun v => canP pick a k (without S v)
theorem canP_iff {pick : List Nat → Nat → Nat} (hp : ∀ S a, S ≠ [] → pick S a ∈ S) {a : Nat} (ha : a < 2 ^ 64) : ∀ (k : Nat) (S : List Nat), canP pick a k S = true ↔ Cov (fun v => a.testBit v = true) S k
  | 0, S => by
    unfold canP
    rw [List.isEmpty_iff]
    exact ⟨fun h => h ▸ cov_nil _ _, cov_zero⟩
  | k + 1, S => by
    unfold canP
    rw [Bool.or_eq_true, List.isEmpty_iff, List.any_eq_true]
    constructor
    · rintro (h | ⟨v, hv, h⟩)
      · rw [h]; exact cov_nil _ _
      · have hlt : pick S a &&& a < 2 ^ 64 := Nat.lt_of_le_of_lt Nat.and_le_right ha
        rw [mem_memb hlt, Nat.testBit_and, Bool.and_eq_true] at hv
        exact Cov.step hv.2 ((canP_iff hp ha k _).1 h)
    · intro h
      by_cases hS : S = []
      · exact .inl hS
      · obtain ⟨j, v, hj, hb, hok, hc⟩ := h.unstep (hp S a hS)
        obtain rfl : k = j := by omega
        refine .inr ⟨v, ?_, (canP_iff hp ha k _).2 hc⟩
        have hlt : pick S a &&& a < 2 ^ 64 := Nat.lt_of_le_of_lt Nat.and_le_right ha
        rw [mem_memb hlt, Nat.testBit_and, hb, hok]
        rfl
def firsts (can : Nat → List Nat → Nat → Bool) : Nat → Nat → List Nat → Nat → List Nat
  | 0, _, _, _ => []
  | _ + 1, _, _, 0 => []
  | d + 1, v, S, m + 1 => if can (v + 1) (without S v) m = true then v :: firsts can d (v + 1) (without S v) m else firsts can d (v + 1) S (m + 1)
def Least (V v : Nat) (S : List Nat) (m : Nat) : Prop := Cov (fun u => v ≤ u ∧ u < V) S m ∧ ∀ k, Cov (fun u => v ≤ u ∧ u < V) S k → m ≤ k
theorem Least.zero {V v : Nat} {S : List Nat} {m : Nat} (h : Least V v S m) : S = [] ↔ m = 0 := by
  constructor
  · intro e
    subst e
    exact Nat.le_zero.1 (h.2 0 (cov_nil _ _))
  · intro e
    subst e
    exact cov_zero h.1
theorem Cov.past {V v : Nat} {S : List Nat} {k : Nat} (h : Cov (fun u => v ≤ u ∧ u < V) (Go.Proofs.Ytelfalicickelaa.GT.without S v) k) : Cov (fun u => v + 1 ≤ u ∧ u < V) (Go.Proofs.Ytelfalicickelaa.GT.without S v) k := by
  obtain ⟨vs, h1, h2, h3⟩ := h
  refine ⟨vs.filter fun u => !(u == v), Nat.le_trans (List.length_filter_le _ _) h1, fun u hu => ?_, fun s hs => ?_⟩
  · obtain ⟨a, b⟩ := List.mem_filter.1 hu
    have := h2 u a
    simp at b
    omega
  · obtain ⟨u, hu, hb⟩ := h3 s hs
    refine ⟨u, List.mem_filter.2 ⟨hu, ?_⟩, hb⟩
    have := (mem_without.1 hs).2
    simp
    rintro rfl
    rw [this] at hb
    cases hb
theorem Least.take {V v : Nat} {S : List Nat} {m : Nat} (h : Least V v S (m + 1)) (hv : v < V) (hc : Cov (fun u => v + 1 ≤ u ∧ u < V) (Go.Proofs.Ytelfalicickelaa.GT.without S v) m) : Least V (v + 1) (Go.Proofs.Ytelfalicickelaa.GT.without S v) m :=
  ⟨hc, fun k hk => by
    have := h.2 (k + 1) (Cov.step (v := v) ⟨Nat.le_refl v, hv⟩ (hk.mono (fun u hu => ⟨by omega, hu.2⟩) (Nat.le_refl _)))
    omega⟩
theorem Least.skip {V v : Nat} {S : List Nat} {m : Nat} (h : Least V v S (m + 1)) (hc : ¬ Cov (fun u => v + 1 ≤ u ∧ u < V) (Go.Proofs.Ytelfalicickelaa.GT.without S v) m) : Least V (v + 1) S (m + 1) := by
  refine ⟨?_, fun k hk => h.2 k (hk.mono (fun u hu => ⟨by omega, hu.2⟩) (Nat.le_refl _))⟩
  obtain ⟨vs, h1, h2, h3⟩ := h.1
  by_cases hm : v ∈ vs
  · exfalso
    apply hc
    refine Cov.past ⟨vs.erase v, ?_, fun u hu => h2 u (List.mem_of_mem_erase hu), fun s hs => ?_⟩
    · have := List.length_erase_of_mem hm; omega
    · obtain ⟨a, b⟩ := mem_without.1 hs
      exact hit_erase (h3 s a) b
  · refine ⟨vs, h1, fun u hu => ?_, h3⟩
    have := h2 u hu
    have : u ≠ v := fun e => hm (e ▸ hu)
    omega
theorem Least.last {V v : Nat} {S : List Nat} {m : Nat} (h : Least V v S m) (hv : V ≤ v) : m = 0 := by
  obtain ⟨vs, h1, h2, h3⟩ := h.1
  have : vs = [] := by
    rw [List.eq_nil_iff_forall_not_mem]
    intro u hu
    have := h2 u hu
    omega
  subst this
  have h4 := h.2 0 ⟨[], Nat.le_refl _, fun v h => by simp at h, h3⟩
  omega
end Go.Proofs.Ytelfalicickelaa.GT
set_option linter.unusedSimpArgs false
set_option linter.unusedVariables false
namespace Go.Proofs.Ytelfalicickelaa.P
open Go.Lib Go.RowKit Go.Proofs.YtelfalicickelaaW.PrintWords Go.Proofs.YtelfalicickelaaW.PrintLast Go.Proofs.YtelfalicickelaaW.PrintMore Go.Proofs.Ytelfalicickelaa.Kit
theorem pow_lt64 {n : Nat} (h : n ≤ 63) : 2 ^ n < 18446744073709551616 := by
  have : 2 ^ n ≤ 2 ^ 63 := Nat.pow_le_pow_right (by decide) h
  have h2 : (2 : Nat) ^ 63 < 18446744073709551616 := by decide
  omega
theorem shru (x i : Nat) (hi : i ≤ 64) : shr .u64 (x : Int) (i : Int) = ((x / 2 ^ i : Nat) : Int) := by
  unfold shr
  have hb : IntKind.u64.bits = 64 := rfl
  rw [hb, Int.toNat_natCast, Nat.min_eq_left hi]
  simp
theorem shlu1 (i : Nat) (hi : i ≤ 63) : shl .u64 1 (i : Int) = ((2 ^ i : Nat) : Int) := by
  unfold shl
  have hb : IntKind.u64.bits = 64 := rfl
  rw [hb, Int.toNat_natCast, Nat.min_eq_left (by omega), Int.one_mul]
  have h2 : (2 : Int) ^ i = ((2 ^ i : Nat) : Int) := by simp
  rw [h2, u64w (pow_lt64 hi)]
theorem and_pow (x i : Nat) : x &&& 2 ^ i = if x.testBit i = true then 2 ^ i else 0 := by
  refine Nat.eq_of_testBit_eq fun j => ?_
  rw [Nat.testBit_and, Nat.testBit_two_pow]
  by_cases h : i = j
  · subst h
    cases x.testBit i <;> simp
  · cases x.testBit i <;> simp [h]
theorem div_zero_bits {x i j : Nat} (h : x / 2 ^ i = 0) (hj : i ≤ j) : x.testBit j = false := by
  have : (x / 2 ^ i).testBit (j - i) = x.testBit j := by rw [Nat.testBit_div_two_pow, Nat.sub_add_cancel hj]
  rw [← this, h]
  exact Nat.zero_testBit _
theorem members_l0 (x : Nat) (hx : x < 18446744073709551616) : ∀ (d i k : Nat) (acc : List Int), 64 - i = d → i ≤ 64 → d < k → acc.length ≤ 64 - d →
    gate_members.l0 k (x : Int) acc (i : Int) = some (acc ++ ((List.range' i d).filter fun j => x.testBit j).map fun (j : Nat) => (j : Int)) := by
  intro d
  induction d with
  | zero =>
    intro i k acc hd hi hk _
    obtain ⟨k, rfl⟩ : ∃ j, k = j + 1 := ⟨k - 1, by omega⟩
    have hi64 : i = 64 := by omega
    subst hi64
    simp only [gate_members.l0]
    rw [if_pos (by omega), shru _ _ (Nat.le_refl _), Nat.div_eq_of_lt (by rw [show (2 : Nat) ^ 64 = 18446744073709551616 by decide]; exact hx), if_neg (by decide)]
    simp
  | succ d ih =>
    intro i k acc hd hi hk hacc
    obtain ⟨k, rfl⟩ : ∃ j, k = j + 1 := ⟨k - 1, by omega⟩
    have hw : ∀ _ : Unit, wrap64 ((i : Int) + 1) = ((i + 1 : Nat) : Int) := fun _ => by rw [w64 (by omega) (by omega)]; omega
    simp only [gate_members.l0]
    rw [if_pos (by omega), shru _ _ (by omega)]
    by_cases hz : x / 2 ^ i = 0
    · rw [hz, if_neg (by decide)]
      have : ((List.range' i (d + 1)).filter fun j => x.testBit j) = [] := by
        rw [List.filter_eq_nil_iff]
        intro j hj
        rw [List.mem_range'_1] at hj
        rw [div_zero_bits hz hj.1]
        decide
      rw [this]
      simp
    · rw [if_pos (show ((x / 2 ^ i : Nat) : Int) > 0 from Int.ofNat_lt.2 (Nat.pos_of_ne_zero hz)), shlu1 i (by omega), andu64 _ _ hx (pow_lt64 (by omega)), and_pow, hw ()]
      rw [List.range'_succ, List.filter_cons]
      cases hb : x.testBit i with
      | false =>
        simp only [Bool.false_eq_true, if_false]
        rw [if_pos (by rfl)]
        exact ih (i + 1) k acc (by omega) (by omega) (by omega) (by omega)
      | true =>
        simp only [if_true]
        have hp := Nat.two_pow_pos i
        rw [if_neg (fun e => Nat.ne_of_gt hp (Int.ofNat_eq_zero.1 e)), if_pos (by omega), ih (i + 1) k _ (by omega) (by omega) (by omega) (by simp; omega)]
        simp
def membI (x : Nat) : List Int := (GT.memb x).map fun (j : Nat) => (j : Int)
theorem members_f (x : Nat) (hx : x < 18446744073709551616) (k : Nat) (hk : 64 < k) : gate_members.f k (x : Int) = some (membI x) := by
  unfold gate_members.f membI GT.memb
  have := members_l0 x hx 64 0 k [] (by omega) (by omega) (by omega) (by simp)
  rw [List.range_eq_range']
  simpa using this
theorem bit_one (x v : Nat) : x / 2 ^ v % 2 = (x.testBit v).toNat := by
  rw [Nat.testBit_eq_decide_div_mod_eq]
  rcases Nat.mod_two_eq_zero_or_one (x / 2 ^ v) with e | e <;> simp [e]
theorem reply_step (l : List Bool) (b : Bool) (h : l.length ≤ 62) : Go.bits .or .i64 ((GT.num l : Nat) : Int) (shl .i64 ((b.toNat : Nat) : Int) (l.length : Int)) = ((GT.num (l ++ [b]) : Nat) : Int) := by
  have h1 := GT.num_lt l
  have h2 := pow_le62 h
  have hs : shl .i64 ((b.toNat : Nat) : Int) (l.length : Int) = ((b.toNat * 2 ^ l.length : Nat) : Int) := by
    cases b with
    | true => simpa using shl1n h
    | false => unfold shl; simp; decide
  have h3 : b.toNat * 2 ^ l.length ≤ 2 ^ l.length := by cases b <;> simp
  rw [hs, or64 _ _ (by omega) (by omega), GT.num_append]
  have h4 := Nat.two_pow_add_eq_or_of_lt h1 b.toNat
  rw [Nat.mul_comm (2 ^ l.length), Nat.add_comm] at h4
  rw [h4, Nat.or_comm]
theorem andu1 (x : Nat) (hx : x < 18446744073709551616) : Go.bits .and .u64 (x : Int) 1 = ((x % 2 : Nat) : Int) := by
  have h := andu64 x 1 hx (by decide)
  rw [Nat.and_one_is_mod] at h
  exact h
theorem reply_l0 (ws : List Nat) (h64 : W64 ws) (hl : ws.length ≤ 62) (v : Nat) (hv : v ≤ 63) : ∀ d i k, ws.length - i = d → i ≤ ws.length → d < k →
    gate_reply.l0 k (v : Int) ((GT.num ((ws.take i).map fun w => w.testBit v) : Nat) : Int) (nI ws) ((nI ws).length : Int) (i : Int) = some ((GT.num (ws.map fun w => w.testBit v) : Nat) : Int) := by
  intro d
  induction d with
  | zero =>
    intro i k hd hi hk
    obtain ⟨k, rfl⟩ : ∃ j, k = j + 1 := ⟨k - 1, by omega⟩
    simp only [gate_reply.l0]
    rw [nI_length, if_neg (by omega), List.take_of_length_le (by omega)]
  | succ d ih =>
    intro i k hd hi hk
    obtain ⟨k, rfl⟩ : ∃ j, k = j + 1 := ⟨k - 1, by omega⟩
    have hil : i < ws.length := by omega
    have hw : ∀ _ : Unit, wrap64 ((i : Int) + 1) = ((i + 1 : Nat) : Int) := fun _ => by rw [w64 (by omega) (by omega)]; omega
    simp only [gate_reply.l0]
    rw [nI_length, if_pos (by omega), if_pos (by omega), if_pos (by omega), if_pos (by omega), rd_nI, shru _ _ (by omega)]
    have hg : ws.getD i 0 = ws[i] := by simp [List.getD_eq_getElem?_getD, hil]
    have h6 := h64 i
    have hle : ws.getD i 0 / 2 ^ v ≤ ws.getD i 0 := Nat.div_le_self _ _
    rw [andu1 _ (by omega), bit_one, w64n _ (by cases (ws.getD i 0).testBit v <;> simp), hw ()]
    have hst := reply_step ((ws.take i).map fun w => w.testBit v) ((ws.getD i 0).testBit v) (by rw [List.length_map, List.length_take]; omega)
    rw [List.length_map, List.length_take, Nat.min_eq_left hi] at hst
    rw [hst]
    have he : (ws.take i).map (fun w => w.testBit v) ++ [(ws.getD i 0).testBit v] = (ws.take (i + 1)).map fun w => w.testBit v := by
      rw [List.take_succ_eq_append_getElem hil, List.map_append, hg]
      rfl
    rw [he]
    have := ih (i + 1) k (by omega) (by omega) (by omega)
    rw [nI_length] at this
    exact this
theorem reply_f (ws : List Nat) (h64 : W64 ws) (hl : ws.length ≤ 62) (v : Nat) (hv : v ≤ 63) (k : Nat) (hk : ws.length < k) : gate_reply.f k (nI ws) (v : Int) = some ((GT.num (ws.map fun w => w.testBit v) : Nat) : Int) := by
  unfold gate_reply.f
  have := reply_l0 ws h64 hl v hv ws.length 0 k (by omega) (by omega) hk
  simpa [GT.num] using this
theorem outsW_reply (c : GT.C) (F : Option Nat) (v : Nat) (hv : v < 2 ^ c.n) : GT.num ((GT.outsW c F).map fun w => w.testBit v) = GT.reply c F v := by
  unfold GT.reply GT.outs GT.outsW
  rw [List.map_map]
  congr 1
  refine List.map_congr_left fun o _ => ?_
  show (GT.wline c F o).testBit v = _
  unfold GT.wline
  rw [GT.wd_bit]
  simp [hv]
theorem outsW_W64 {N : Nat} (hN : N ≤ 6) (ls : List S40) (os : List Int) (F : Option Nat) : W64 (GT.outsW (toC N ls os) F) := by
  intro j
  unfold GT.outsW
  by_cases h : j < ((toC N ls os).os.map (GT.wline (toC N ls os) F)).length
  · rw [List.getD_eq_getElem?_getD, List.getElem?_eq_getElem h, List.getElem_map]
    exact wline_lt64 hN _ _ _ _
  · rw [List.getD_eq_getElem?_getD, List.getElem?_eq_none (by omega)]
    decide
end Go.Proofs.Ytelfalicickelaa.P
set_option linter.unusedSimpArgs false
set_option linter.unusedVariables false
namespace Go.Proofs.Ytelfalicickelaa.P
open Go.Lib Go.RowKit Go.Proofs.YtelfalicickelaaW.PrintWords Go.Proofs.YtelfalicickelaaW.PrintLast Go.Proofs.YtelfalicickelaaW.PrintMore Go.Proofs.Ytelfalicickelaa.Kit
def shTo (a b : List Nat) : Nat → Nat
  | 0 => 0
  | i + 1 => shTo a b i ||| (a.getD i 0 ^^^ b.getD i 0)
theorem shTo_bit (a b : List Nat) (v : Nat) : ∀ i, (shTo a b i).testBit v = true ↔ ∃ j, j < i ∧ (a.getD j 0).testBit v ≠ (b.getD j 0).testBit v
  | 0 => by simp [shTo]
  | i + 1 => by
    unfold shTo
    rw [Nat.testBit_or, Nat.testBit_xor, Bool.or_eq_true, shTo_bit a b v i]
    constructor
    · rintro (⟨j, h1, h2⟩ | h)
      · exact ⟨j, by omega, h2⟩
      · exact ⟨i, by omega, by simpa using h⟩
    · rintro ⟨j, h1, h2⟩
      by_cases e : j = i
      · subst e; exact .inr (by simpa using h2)
      · exact .inl ⟨j, by omega, h2⟩
theorem shTo_lt {a b : List Nat} (ha : W64 a) (hb : W64 b) : ∀ i, shTo a b i < 18446744073709551616
  | 0 => by show 0 < 18446744073709551616; decide
  | i + 1 => by
    unfold shTo
    refine or_lt64 (shTo_lt ha hb i) ?_
    have := Nat.xor_lt_two_pow (n := 64) (by simpa using ha i) (by simpa using hb i)
    simpa using this
theorem outsW_length (c : GT.C) (F : Option Nat) : (GT.outsW c F).length = c.os.length := by simp [GT.outsW]
theorem outsW_get (c : GT.C) (F : Option Nat) {j : Nat} (hj : j < c.os.length) : (GT.outsW c F).getD j 0 = GT.wline c F c.os[j] := by simp [GT.outsW, List.getD_eq_getElem?_getD, hj]
theorem shTo_shows (c : GT.C) (f : Nat) : shTo (GT.outsW c none) (GT.outsW c (some f)) c.os.length = GT.shows c f := by
  refine GT.nat_ext fun v => ?_
  unfold GT.shows
  rw [GT.wd_bit, Bool.eq_iff_iff, shTo_bit, Bool.and_eq_true, decide_eq_true_eq, decide_eq_true_eq]
  constructor
  · rintro ⟨j, hj, hne⟩
    rw [outsW_get _ _ hj, outsW_get _ _ hj] at hne
    unfold GT.wline at hne
    rw [GT.wd_bit, GT.wd_bit] at hne
    by_cases hv : v < 2 ^ c.n
    · refine ⟨hv, fun e => hne ?_⟩
      have := (GT.reply_ne c (some f) none v).1 e c.os[j] (List.getElem_mem hj)
      rw [this]
    · exact absurd (by simp [hv]) hne
  · rintro ⟨hv, hne⟩
    apply Classical.byContradiction
    intro hno
    apply hne
    rw [GT.reply_ne]
    intro o ho
    obtain ⟨j, hj, rfl⟩ := List.mem_iff_getElem.1 ho
    apply Classical.byContradiction
    intro hd
    apply hno
    refine ⟨j, hj, ?_⟩
    rw [outsW_get _ _ hj, outsW_get _ _ hj]
    unfold GT.wline
    rw [GT.wd_bit, GT.wd_bit]
    simp only [hv, decide_true, Bool.true_and]
    exact fun e => hd e.symm
theorem shows_lt64 {N : Nat} (hN : N ≤ 6) (ls : List S40) (os : List Int) (f : Nat) : GT.shows (toC N ls os) f < 18446744073709551616 := Nat.lt_of_lt_of_le (GT.wd_lt _ _) (pow64_le hN)
set_option maxHeartbeats 8000000
set_option maxRecDepth 100000
theorem shows_calls {w : World} {g N : Nat} {ls : List S40} {os : List Int} (f : Nat) (hf : f ≤ 100) (hok : okC (N : Int) ls os = true) (hC : CircAt w g N ls os) :
    Calls Try.prog 74 #[.pointer (some ⟨g, 0, none⟩), .int .i64 (f : Int)] w fun e w' => e = .returned (.int .u64 ((GT.shows (toC N ls os) f : Nat) : Int)) ∧ Below w.heap.size w w' := by
  have hs := okC_small hok
  have HO1 := Aside0.mk (fun W (hb : Below w.heap.size w W) => outs_calls (some f) (fun q hq => by cases hq; exact hf) hok (hC.keep hb))
  have HO2 := Aside0.mk (fun W (hb : Below w.heap.size w W) => outs_calls none (fun q hq => by cases hq) hok (hC.keep hb))
  have hsh := shTo_shows (toC N ls os) f
  have hN6 : N ≤ 6 := by omega
  have w1 := outsW_W64 hN6 ls os none
  have w2 := outsW_W64 hN6 ls os (some f)
  have hl1 := outsW_length (toC N ls os) none
  have hl2 := outsW_length (toC N ls os) (some f)
  have hlo : (toC N ls os).os.length = os.length := by simp [toC]
  rw [hlo] at hl1 hl2 hsh
  have hm : os.length ≤ 4 := hs.2.2.2.2
  generalize os.length = m at *
  generalize GT.outsW (toC N ls os) none = a at *
  generalize GT.outsW (toC N ls os) (some f) = b at *
  generalize GT.shows (toC N ls os) f = S at *
  subst hsh
  have HW := Aside0.mk (And.intro w1 w2)
  have HL := Aside0.mk (And.intro hl1 hl2)
  have HM := Aside0.mk hm
  have HB := Aside0.mk (Below.refl w.heap.size w)
  rw [show fI (some f) = (f : Int) from rfl] at HO1
  rw [show fI none = -1 from rfl] at HO2
  clear hs hok hC w1 w2 hlo hl1 hl2 hm
  go_enter Try.func74, Try.ntmps74
  go_wp2_with (first | (go_at_call 59; (with_reducible refine (HO1.out _ HB.out).mono ?_); rintro e w1 ⟨v1, rfl, hR, hb⟩; obtain ⟨A1, c1, rfl⟩ := Kd.R_slice hR; have HR1 := Aside0.mk (Kd.R_reads' hR); have HB1 := Aside0.mk hb; clear hR hb))
  go_wp2_with (first | (go_at_call 59; (with_reducible refine (HO2.out _ HB1.out).mono ?_); rintro e w2 ⟨v2, rfl, hR, hb⟩; obtain ⟨A2, c2, rfl⟩ := Kd.R_slice hR; have HR2 := Aside0.mk (Kd.R_reads' hR); have HB2 := Aside0.mk hb; clear hR hb))
  have hB0 := Aside0.mk (HB1.out.trans (HB2.out.mono HB1.out.size))
  have hR1 := Aside0.mk (Kd.C_below HR1.out.2.2 HB2.out)
  have HL1 := HL.out.1
  have HL2 := HL.out.2
  have hBw := Aside0.mk (Below.refl w2.heap.size w2)
  go_loopw [5, 15] (fun v5 v15 w' => ∃ i : Nat, v15 = .int .i64 (i : Int) ∧ v5 = .int .u64 ((shTo a b i : Nat) : Int) ∧ Aside0 (i ≤ m) ∧ Aside0 (Below w2.heap.size w2 w')) (fun _ v _ => m - (intOf v).toNat)
  case atStart => exact ⟨0, rfl, rfl, ⟨Nat.zero_le _⟩, hBw⟩
  case round =>
    clear hBw
    obtain ⟨i, rfl, rfl, Hi, HBw⟩ := hrel
    have hna : (nI a).length = m := by rw [nI_length]; exact HL.out.1
    have hnb : (nI b).length = m := by rw [nI_length]; exact HL.out.2
    rw [hna]
    by_cases ct : (i : Int) < (m : Int)
    · have c1b : decide ((i : Int) < (m : Int)) = true := decide_eq_true ct
      have c1c : decide (i < m) = true := decide_eq_true (by omega)
      have hi : i < m := by omega
      have Hct := Aside0.mk hi
      have q1 := eq_true ct
      have q2 := eq_true hi
      have q3 := eq_true (show (0 : Int) ≤ i by omega)
      have r2 := Kd.C_below HR2.out.2.2 HBw.out
      have r1 := Kd.C_below hR1.out HBw.out
      rw [hna] at r2
      rw [hnb] at r1
      obtain ⟨ad2, e2, hx2⟩ := Kd.at_int r2 (i : Int) (by omega) ct
      obtain ⟨ad1, e1, hx1⟩ := Kd.at_int r1 (i : Int) (by omega) ct
      subst e1 e2
      rw [rd_nI, Int.toNat_natCast] at hx1 hx2
      have HSt := Aside0.mk (show Go.bits .or .u64 ((shTo a b i : Nat) : Int) (Go.bits .xor .u64 ((a.getD i 0 : Nat) : Int) ((b.getD i 0 : Nat) : Int)) = ((shTo a b (i + 1) : Nat) : Int) by
        have hx := Nat.xor_lt_two_pow (n := 64) (by simpa using HW.out.1 i) (by simpa using HW.out.2 i)
        rw [xoru64 _ _ (HW.out.1 i) (HW.out.2 i), oru64 _ _ (shTo_lt HW.out.1 HW.out.2 i) (by simpa using hx)]
        rfl)
      generalize a.getD i 0 = x at *
      generalize b.getD i 0 = y at *
      clear ct r1 r2 hi
      go_wp2
      go_roundw
      case rel => exact ⟨i + 1, by rw [w64 (by have := Hct.out; have := HM.out; omega) (by have := Hct.out; have := HM.out; omega)]; rfl, by rw [HSt.out], ⟨Hct.out⟩, HBw⟩
      case measure => rw [w64 (by have := Hct.out; have := HM.out; omega) (by have := Hct.out; have := HM.out; omega)]; have := Hct.out; simp [intOf]; omega
    · have c1b : decide ((i : Int) < (m : Int)) = false := decide_eq_false ct
      have c1c : decide (i < m) = false := decide_eq_false (by omega)
      have him : m = i := by have := Hi.out; omega
      subst him
      clear ct
      go_wp2
      go_ret
      exact ⟨rfl, hB0.out.trans (HBw.out.mono hB0.out.size)⟩
end Go.Proofs.Ytelfalicickelaa.P
set_option linter.unusedSimpArgs false
set_option linter.unusedVariables false
namespace Go.Proofs.Ytelfalicickelaa.P
open Go.Lib Go.RowKit Go.Proofs.YtelfalicickelaaW.PrintWords Go.Proofs.YtelfalicickelaaW.PrintLast Go.Proofs.YtelfalicickelaaW.PrintMore Go.Proofs.Ytelfalicickelaa.Kit
def whereN (c : GT.C) (p : Nat → Bool) : List Nat := (List.range (2 * GT.lines c)).filter fun f => p (GT.shows c f)
def whereTo (c : GT.C) (p : Nat → Bool) (i : Nat) : List Nat := (List.range i).filter fun f => p (GT.shows c f)
theorem whereTo_succ (c : GT.C) (p : Nat → Bool) (i : Nat) : whereTo c p (i + 1) = if p (GT.shows c i) = true then whereTo c p i ++ [i] else whereTo c p i := by
  unfold whereTo
  rw [List.range_succ, List.filter_append]
  by_cases h : p (GT.shows c i) = true
  · rw [if_pos h]; simp [h]
  · rw [if_neg h]; simp [h]
theorem whereTo_len (c : GT.C) (p : Nat → Bool) (i : Nat) : (whereTo c p i).length ≤ i := by
  unfold whereTo
  refine Nat.le_trans (List.length_filter_le _ _) ?_
  rw [List.length_range]
  exact Nat.le_refl _
theorem toC_lines (N : Nat) (ls : List S40) (os : List Int) : GT.lines (toC N ls os) = N + ls.length := by simp [GT.lines, toC]
set_option maxHeartbeats 8000000
set_option maxRecDepth 100000
theorem ask_hidden (x : Nat) (W : World) (b : Bool) (hb : (x == 0) = b) : Calls Try.prog 80 #[.int .u64 (x : Int)] W fun e w' => e = .returned (.bool b) ∧ Drawn0 W w' := by
  have h1 : ((x : Int) == 0) = b := by rw [← hb, Bool.eq_iff_iff, beq_iff_eq, beq_iff_eq]; omega
  clear hb
  go_enter Try.func80, Try.ntmps80
  go_wp2
  go_ret
  exact ⟨by rw [← h1]; rfl, Drawn0.refl _⟩
theorem ask_shown0 (x : Nat) (W : World) (b : Bool) (hb : (x != 0) = b) : Calls Try.prog 90 #[.int .u64 (x : Int)] W fun e w' => e = .returned (.bool b) ∧ Drawn0 W w' := by
  have h1 : ((x : Int) != 0) = b := by rw [← hb, Bool.eq_iff_iff, bne_iff_ne, bne_iff_ne]; omega
  clear hb
  go_enter Try.func90, Try.ntmps90
  go_wp2
  go_ret
  exact ⟨by rw [← h1]; rfl, Drawn0.refl _⟩
theorem and_shl (x v : Nat) (hx : x < 18446744073709551616) (hv : v ≤ 63) : (Go.bits .and .u64 (x : Int) (IntKind.u64.wrap (2 ^ min v 64)) != 0) = x.testBit v := by
  rw [Nat.min_eq_left (by omega)]
  have h2 : (2 : Int) ^ v = ((2 ^ v : Nat) : Int) := by simp
  rw [h2, u64w (pow_lt64 hv), andu64 _ _ hx (pow_lt64 hv), and_pow]
  have hp := Nat.two_pow_pos v
  cases x.testBit v with
  | false => rfl
  | true =>
    rw [if_pos rfl]
    exact bne_iff_ne.2 (fun e => Nat.ne_of_gt hp (Int.ofNat_eq_zero.1 e))
theorem ask_shown (x v Bv : Nat) (hx : x < 18446744073709551616) (hv : v ≤ 63) (W : World) (hc : W.cell? ⟨Bv, 0, none⟩ = some (.int .i64 (v : Int))) (b : Bool) (hb : x.testBit v = b) : Calls Try.prog 72 #[.int .u64 (x : Int), .pointer (some ⟨Bv, 0, none⟩)] W fun e w' => e = .returned (.bool b) ∧ Drawn0 W w' := by
  have h1 := and_shl x v hx hv
  rw [hb] at h1
  clear hb hx hv
  go_enter Try.func72, Try.ntmps72
  go_wp2
  go_ret
  exact ⟨by rw [← h1]; rfl, Drawn0.refl _⟩
theorem where_hidden {w : World} {g N : Nat} {ls : List S40} {os : List Int}  (hok : okC (N : Int) ls os = true) (hC : CircAt w g N ls os) :
    Calls Try.prog 71 #[.pointer (some ⟨g, 0, none⟩), .func (.func 80) #[] #[]] w fun e w' => ∃ v0_ : Value, e = .returned v0_ ∧ Kd.R (Kd.int .i64) 3 w' w.heap.size (fun _ => True) v0_ (nI (whereN (toC N ls os) (fun x => x == 0))) ∧ Below w.heap.size w w' := by
  have hs := okC_small hok
  have hN6 : N ≤ 6 ∧ ls.length ≤ 16 := by omega
  have HS := Aside0.mk (fun W (hb : Below w.heap.size w W) f hf => shows_calls f hf hok (hC.keep hb))
  have HFl := Aside0.mk (fun W (hb : Below w.heap.size w W) => failures_calls (hC.keep hb) hN6.1 hN6.2)
  have HLt := Aside0.mk (fun f => shows_lt64 hN6.1 ls os f)
  have hwh : whereN (toC N ls os) (fun x => x == 0) = whereTo (toC N ls os) (fun x => x == 0) (2 * (N + ls.length)) := by unfold whereN whereTo; rw [toC_lines]
  rw [hwh]
  obtain ⟨M, hM⟩ : ∃ M, 2 * (N + ls.length) = M := ⟨_, rfl⟩
  have hM44 : M ≤ 44 := by omega
  rw [hM] at HFl ⊢
  generalize toC N ls os = cc at *
  have HM := Aside0.mk hM44
  have HB := Aside0.mk (Below.refl w.heap.size w)
  clear hs hok hC hN6 hwh hM hM44
  go_enter Try.func71, Try.ntmps71
  go_wp2_with (go_at_call 55; (with_reducible refine (HFl.out _ HB.out).mono ?_); rintro e w1 ⟨rfl, ⟨nd, rfl⟩⟩)
  have HB1 := Aside0.mk (pw_below_drewN HB.out nd)
  clear HB
  go_loopw [5, 9] (fun v5 v9 w' => ∃ i : Nat, v9 = .int .i64 (i : Int) ∧ Aside0 (i ≤ M) ∧ Aside0 (Kd.R (Kd.int .i64) 3 w' w.heap.size (fun _ => True) v5 (nI (whereTo cc (fun x => x == 0) i))) ∧ Aside0 (Below w.heap.size w w')) (fun _ v _ => M - (intOf v).toNat)
  case atStart => exact ⟨0, rfl, ⟨Nat.zero_le _⟩, ⟨Kd.R_nil _ _ _ _ _⟩, HB1⟩
  case round =>
    clear HB1
    obtain ⟨i, rfl, Hi, HR, HB⟩ := hrel
    by_cases ct : (i : Int) < (M : Int)
    · have c1b : decide ((i : Int) < (M : Int)) = true := decide_eq_true ct
      have c1c : decide (i < M) = true := decide_eq_true (by omega)
      have Hct := Aside0.mk (show i < M by omega)
      have HSw := Aside0.mk (HS.out _ HB.out i (by have := HM.out; omega))
      have hlt := HLt.out i
      have hsu := whereTo_succ cc (fun x => x == 0) i
      obtain ⟨b, hb⟩ : ∃ b, (fun x => x == 0) (GT.shows cc i) = b := ⟨_, rfl⟩
      simp only [] at hb hsu
      rw [hb] at hsu
      have hlen : (nI (whereTo cc (fun x => x == 0) i)).length < 17592186044416 := by rw [nI_length]; exact Nat.lt_of_le_of_lt (whereTo_len cc (fun x => x == 0) i) (by have := HM.out; omega)
      have HLen := Aside0.mk hlen
      generalize GT.shows cc i = x at *
      have HXl := Aside0.mk hlt
      have HBb := Aside0.mk hb
      clear ct hlt hb hlen
      cases b with
      | true =>
        rw [if_pos rfl] at hsu
        have HTK := Aside0.mk (show nI (whereTo cc (fun x => x == 0) i) ++ [(i : Int)] = nI (whereTo cc (fun x => x == 0) (i + 1)) by rw [hsu, nI_snoc])
        clear hsu
        go_wp2_with (first | (go_at_call 74; (with_reducible refine (HSw.out).mono ?_); rintro e w2 ⟨rfl, hb⟩; have HB2 := Aside0.mk (HB.out.trans (hb.mono HB.out.size)); have HR2 := Aside0.mk (Kd.R_below HR.out hb); clear hb) | (go_at_call 80; (with_reducible refine (ask_hidden x _ true HBb.out).mono ?_); rintro e w3 ⟨rfl, ⟨nd, rfl⟩⟩; have HB3 := Aside0.mk (pw_below_drewN HB2.out nd); have HR3 := Aside0.mk (Kd.R_drewN HR2.out nd)) | ((with_reducible refine gate_builtin (b := .append) (xs := #[.tmp 17, .tmp 19]) rfl ?_); at_builtin; refine Kd.R_append (Kd.int .i64) (w0 := w) w.heap.size rfl (.tmp 17) (.tmp 19) 23 3 (.int .i64 0) 8 rfl Try.underlying23 info3 rfl (by decide) (by omega) _ (nI (whereTo cc (fun x => x == 0) i)) (i : Int) [.int .i64 (i : Int)] (fun _ => True) (fun _ => False) rfl rfl ?aP (fun _ hk => hk.elim) ?aF ?aO ?aB ?aS ?aL ?_; (case aP => exact rfl); (case aB => exact (by repeat (first | (with_reducible first | exact HB3.out | apply below_alloc | apply pw_below_drewN | apply below_drew1) | exact HB3.out))); (case aF => exact (fun _ _ => trivial)); (case aO => exact (by (with_reducible repeat (first | apply Kd.R_alloc | apply Kd.R_drewN | apply Kd.R_drew)); exact HR3.out)); (case aS => exact (below_size (by repeat (first | (with_reducible first | exact HB3.out | apply below_alloc | apply pw_below_drewN | apply below_drew1) | exact HB3.out)))); (case aL => have := HLen.out; omega); intro v243 w7 ho hb hg hat; rw [HTK.out] at ho; have HB9 := Aside0.mk (hb); have HR9 := Aside0.mk (ho); clear HB3; clear HR3; clear ho hb hg hat))
        go_roundw
        case rel => exact ⟨i + 1, by rw [w64 (by have := Hct.out; have := HM.out; omega) (by have := Hct.out; have := HM.out; omega)]; rfl, ⟨Hct.out⟩, HR9, HB9⟩
        case measure => rw [w64 (by have := Hct.out; have := HM.out; omega) (by have := Hct.out; have := HM.out; omega)]; have := Hct.out; simp [intOf]; omega
      | false =>
        rw [if_neg (by decide)] at hsu
        have HTK := Aside0.mk hsu
        clear hsu
        go_wp2_with (first | (go_at_call 74; (with_reducible refine (HSw.out).mono ?_); rintro e w2 ⟨rfl, hb⟩; have HB2 := Aside0.mk (HB.out.trans (hb.mono HB.out.size)); have HR2 := Aside0.mk (Kd.R_below HR.out hb); clear hb) | (go_at_call 80; (with_reducible refine (ask_hidden x _ false HBb.out).mono ?_); rintro e w3 ⟨rfl, ⟨nd, rfl⟩⟩))
        go_roundw
        case rel => exact ⟨i + 1, by rw [w64 (by have := Hct.out; have := HM.out; omega) (by have := Hct.out; have := HM.out; omega)]; rfl, ⟨Hct.out⟩, ⟨by rw [HTK.out]; exact Kd.R_drewN HR2.out _⟩, ⟨pw_below_drewN HB2.out _⟩⟩
        case measure => rw [w64 (by have := Hct.out; have := HM.out; omega) (by have := Hct.out; have := HM.out; omega)]; have := Hct.out; simp [intOf]; omega
    · have c1b : decide ((i : Int) < (M : Int)) = false := decide_eq_false ct
      have c1c : decide (i < M) = false := decide_eq_false (by omega)
      have hiM : M = i := by have := Hi.out; omega
      subst hiM
      clear ct
      go_wp2
      go_ret
      exact ⟨_, rfl, HR.out, HB.out⟩
theorem where_shown0 {w : World} {g N : Nat} {ls : List S40} {os : List Int}  (hok : okC (N : Int) ls os = true) (hC : CircAt w g N ls os) :
    Calls Try.prog 71 #[.pointer (some ⟨g, 0, none⟩), .func (.func 90) #[] #[]] w fun e w' => ∃ v0_ : Value, e = .returned v0_ ∧ Kd.R (Kd.int .i64) 3 w' w.heap.size (fun _ => True) v0_ (nI (whereN (toC N ls os) (fun x => x != 0))) ∧ Below w.heap.size w w' := by
  have hs := okC_small hok
  have hN6 : N ≤ 6 ∧ ls.length ≤ 16 := by omega
  have HS := Aside0.mk (fun W (hb : Below w.heap.size w W) f hf => shows_calls f hf hok (hC.keep hb))
  have HFl := Aside0.mk (fun W (hb : Below w.heap.size w W) => failures_calls (hC.keep hb) hN6.1 hN6.2)
  have HLt := Aside0.mk (fun f => shows_lt64 hN6.1 ls os f)
  have hwh : whereN (toC N ls os) (fun x => x != 0) = whereTo (toC N ls os) (fun x => x != 0) (2 * (N + ls.length)) := by unfold whereN whereTo; rw [toC_lines]
  rw [hwh]
  obtain ⟨M, hM⟩ : ∃ M, 2 * (N + ls.length) = M := ⟨_, rfl⟩
  have hM44 : M ≤ 44 := by omega
  rw [hM] at HFl ⊢
  generalize toC N ls os = cc at *
  have HM := Aside0.mk hM44
  have HB := Aside0.mk (Below.refl w.heap.size w)
  clear hs hok hC hN6 hwh hM hM44
  go_enter Try.func71, Try.ntmps71
  go_wp2_with (go_at_call 55; (with_reducible refine (HFl.out _ HB.out).mono ?_); rintro e w1 ⟨rfl, ⟨nd, rfl⟩⟩)
  have HB1 := Aside0.mk (pw_below_drewN HB.out nd)
  clear HB
  go_loopw [5, 9] (fun v5 v9 w' => ∃ i : Nat, v9 = .int .i64 (i : Int) ∧ Aside0 (i ≤ M) ∧ Aside0 (Kd.R (Kd.int .i64) 3 w' w.heap.size (fun _ => True) v5 (nI (whereTo cc (fun x => x != 0) i))) ∧ Aside0 (Below w.heap.size w w')) (fun _ v _ => M - (intOf v).toNat)
  case atStart => exact ⟨0, rfl, ⟨Nat.zero_le _⟩, ⟨Kd.R_nil _ _ _ _ _⟩, HB1⟩
  case round =>
    clear HB1
    obtain ⟨i, rfl, Hi, HR, HB⟩ := hrel
    by_cases ct : (i : Int) < (M : Int)
    · have c1b : decide ((i : Int) < (M : Int)) = true := decide_eq_true ct
      have c1c : decide (i < M) = true := decide_eq_true (by omega)
      have Hct := Aside0.mk (show i < M by omega)
      have HSw := Aside0.mk (HS.out _ HB.out i (by have := HM.out; omega))
      have hlt := HLt.out i
      have hsu := whereTo_succ cc (fun x => x != 0) i
      obtain ⟨b, hb⟩ : ∃ b, (fun x => x != 0) (GT.shows cc i) = b := ⟨_, rfl⟩
      simp only [] at hb hsu
      rw [hb] at hsu
      have hlen : (nI (whereTo cc (fun x => x != 0) i)).length < 17592186044416 := by rw [nI_length]; exact Nat.lt_of_le_of_lt (whereTo_len cc (fun x => x != 0) i) (by have := HM.out; omega)
      have HLen := Aside0.mk hlen
      generalize GT.shows cc i = x at *
      have HXl := Aside0.mk hlt
      have HBb := Aside0.mk hb
      clear ct hlt hb hlen
      cases b with
      | true =>
        rw [if_pos rfl] at hsu
        have HTK := Aside0.mk (show nI (whereTo cc (fun x => x != 0) i) ++ [(i : Int)] = nI (whereTo cc (fun x => x != 0) (i + 1)) by rw [hsu, nI_snoc])
        clear hsu
        go_wp2_with (first | (go_at_call 74; (with_reducible refine (HSw.out).mono ?_); rintro e w2 ⟨rfl, hb⟩; have HB2 := Aside0.mk (HB.out.trans (hb.mono HB.out.size)); have HR2 := Aside0.mk (Kd.R_below HR.out hb); clear hb) | (go_at_call 90; (with_reducible refine (ask_shown0 x _ true HBb.out).mono ?_); rintro e w3 ⟨rfl, ⟨nd, rfl⟩⟩; have HB3 := Aside0.mk (pw_below_drewN HB2.out nd); have HR3 := Aside0.mk (Kd.R_drewN HR2.out nd)) | ((with_reducible refine gate_builtin (b := .append) (xs := #[.tmp 17, .tmp 19]) rfl ?_); at_builtin; refine Kd.R_append (Kd.int .i64) (w0 := w) w.heap.size rfl (.tmp 17) (.tmp 19) 23 3 (.int .i64 0) 8 rfl Try.underlying23 info3 rfl (by decide) (by omega) _ (nI (whereTo cc (fun x => x != 0) i)) (i : Int) [.int .i64 (i : Int)] (fun _ => True) (fun _ => False) rfl rfl ?aP (fun _ hk => hk.elim) ?aF ?aO ?aB ?aS ?aL ?_; (case aP => exact rfl); (case aB => exact (by repeat (first | (with_reducible first | exact HB3.out | apply below_alloc | apply pw_below_drewN | apply below_drew1) | exact HB3.out))); (case aF => exact (fun _ _ => trivial)); (case aO => exact (by (with_reducible repeat (first | apply Kd.R_alloc | apply Kd.R_drewN | apply Kd.R_drew)); exact HR3.out)); (case aS => exact (below_size (by repeat (first | (with_reducible first | exact HB3.out | apply below_alloc | apply pw_below_drewN | apply below_drew1) | exact HB3.out)))); (case aL => have := HLen.out; omega); intro v243 w7 ho hb hg hat; rw [HTK.out] at ho; have HB9 := Aside0.mk (hb); have HR9 := Aside0.mk (ho); clear HB3; clear HR3; clear ho hb hg hat))
        go_roundw
        case rel => exact ⟨i + 1, by rw [w64 (by have := Hct.out; have := HM.out; omega) (by have := Hct.out; have := HM.out; omega)]; rfl, ⟨Hct.out⟩, HR9, HB9⟩
        case measure => rw [w64 (by have := Hct.out; have := HM.out; omega) (by have := Hct.out; have := HM.out; omega)]; have := Hct.out; simp [intOf]; omega
      | false =>
        rw [if_neg (by decide)] at hsu
        have HTK := Aside0.mk hsu
        clear hsu
        go_wp2_with (first | (go_at_call 74; (with_reducible refine (HSw.out).mono ?_); rintro e w2 ⟨rfl, hb⟩; have HB2 := Aside0.mk (HB.out.trans (hb.mono HB.out.size)); have HR2 := Aside0.mk (Kd.R_below HR.out hb); clear hb) | (go_at_call 90; (with_reducible refine (ask_shown0 x _ false HBb.out).mono ?_); rintro e w3 ⟨rfl, ⟨nd, rfl⟩⟩))
        go_roundw
        case rel => exact ⟨i + 1, by rw [w64 (by have := Hct.out; have := HM.out; omega) (by have := Hct.out; have := HM.out; omega)]; rfl, ⟨Hct.out⟩, ⟨by rw [HTK.out]; exact Kd.R_drewN HR2.out _⟩, ⟨pw_below_drewN HB2.out _⟩⟩
        case measure => rw [w64 (by have := Hct.out; have := HM.out; omega) (by have := Hct.out; have := HM.out; omega)]; have := Hct.out; simp [intOf]; omega
    · have c1b : decide ((i : Int) < (M : Int)) = false := decide_eq_false ct
      have c1c : decide (i < M) = false := decide_eq_false (by omega)
      have hiM : M = i := by have := Hi.out; omega
      subst hiM
      clear ct
      go_wp2
      go_ret
      exact ⟨_, rfl, HR.out, HB.out⟩
theorem where_shown {w : World} {g N : Nat} {ls : List S40} {os : List Int} (v Bv : Nat) (hv : v ≤ 63) (hc : w.cell? ⟨Bv, 0, none⟩ = some (.int .i64 (v : Int))) (hok : okC (N : Int) ls os = true) (hC : CircAt w g N ls os) :
    Calls Try.prog 71 #[.pointer (some ⟨g, 0, none⟩), .func (.func 72) #[] #[.pointer (some ⟨Bv, 0, none⟩)]] w fun e w' => ∃ v0_ : Value, e = .returned v0_ ∧ Kd.R (Kd.int .i64) 3 w' w.heap.size (fun _ => True) v0_ (nI (whereN (toC N ls os) (fun x => x.testBit v))) ∧ Below w.heap.size w w' := by
  have hs := okC_small hok
  have hN6 : N ≤ 6 ∧ ls.length ≤ 16 := by omega
  have HS := Aside0.mk (fun W (hb : Below w.heap.size w W) f hf => shows_calls f hf hok (hC.keep hb))
  have HFl := Aside0.mk (fun W (hb : Below w.heap.size w W) => failures_calls (hC.keep hb) hN6.1 hN6.2)
  have HLt := Aside0.mk (fun f => shows_lt64 hN6.1 ls os f)
  have hwh : whereN (toC N ls os) (fun x => x.testBit v) = whereTo (toC N ls os) (fun x => x.testBit v) (2 * (N + ls.length)) := by unfold whereN whereTo; rw [toC_lines]
  rw [hwh]
  obtain ⟨M, hM⟩ : ∃ M, 2 * (N + ls.length) = M := ⟨_, rfl⟩
  have hM44 : M ≤ 44 := by omega
  rw [hM] at HFl ⊢
  generalize toC N ls os = cc at *
  have HM := Aside0.mk hM44
  have HV := Aside0.mk hv
  have HCv := Aside0.mk hc
  clear hv hc
  have HB := Aside0.mk (Below.refl w.heap.size w)
  clear hs hok hC hN6 hwh hM hM44
  go_enter Try.func71, Try.ntmps71
  go_wp2_with (go_at_call 55; (with_reducible refine (HFl.out _ HB.out).mono ?_); rintro e w1 ⟨rfl, ⟨nd, rfl⟩⟩)
  have HB1 := Aside0.mk (pw_below_drewN HB.out nd)
  clear HB
  go_loopw [5, 9] (fun v5 v9 w' => ∃ i : Nat, v9 = .int .i64 (i : Int) ∧ Aside0 (i ≤ M) ∧ Aside0 (Kd.R (Kd.int .i64) 3 w' w.heap.size (fun _ => True) v5 (nI (whereTo cc (fun x => x.testBit v) i))) ∧ Aside0 (Below w.heap.size w w')) (fun _ v _ => M - (intOf v).toNat)
  case atStart => exact ⟨0, rfl, ⟨Nat.zero_le _⟩, ⟨Kd.R_nil _ _ _ _ _⟩, HB1⟩
  case round =>
    clear HB1
    obtain ⟨i, rfl, Hi, HR, HB⟩ := hrel
    by_cases ct : (i : Int) < (M : Int)
    · have c1b : decide ((i : Int) < (M : Int)) = true := decide_eq_true ct
      have c1c : decide (i < M) = true := decide_eq_true (by omega)
      have Hct := Aside0.mk (show i < M by omega)
      have HSw := Aside0.mk (HS.out _ HB.out i (by have := HM.out; omega))
      have hlt := HLt.out i
      have hsu := whereTo_succ cc (fun x => x.testBit v) i
      obtain ⟨b, hb⟩ : ∃ b, (fun x => x.testBit v) (GT.shows cc i) = b := ⟨_, rfl⟩
      simp only [] at hb hsu
      rw [hb] at hsu
      have hlen : (nI (whereTo cc (fun x => x.testBit v) i)).length < 17592186044416 := by rw [nI_length]; exact Nat.lt_of_le_of_lt (whereTo_len cc (fun x => x.testBit v) i) (by have := HM.out; omega)
      have HLen := Aside0.mk hlen
      generalize GT.shows cc i = x at *
      have HXl := Aside0.mk hlt
      have HBb := Aside0.mk hb
      clear ct hlt hb hlen
      cases b with
      | true =>
        rw [if_pos rfl] at hsu
        have HTK := Aside0.mk (show nI (whereTo cc (fun x => x.testBit v) i) ++ [(i : Int)] = nI (whereTo cc (fun x => x.testBit v) (i + 1)) by rw [hsu, nI_snoc])
        clear hsu
        go_wp2_with (first | (go_at_call 74; (with_reducible refine (HSw.out).mono ?_); rintro e w2 ⟨rfl, hb⟩; have HB2 := Aside0.mk (HB.out.trans (hb.mono HB.out.size)); have HR2 := Aside0.mk (Kd.R_below HR.out hb); clear hb) | (go_at_call 72; (with_reducible refine (ask_shown x v Bv HXl.out HV.out _ (pw_cell_below HB2.out HCv.out) true HBb.out).mono ?_); rintro e w3 ⟨rfl, ⟨nd, rfl⟩⟩; have HB3 := Aside0.mk (pw_below_drewN HB2.out nd); have HR3 := Aside0.mk (Kd.R_drewN HR2.out nd)) | ((with_reducible refine gate_builtin (b := .append) (xs := #[.tmp 17, .tmp 19]) rfl ?_); at_builtin; refine Kd.R_append (Kd.int .i64) (w0 := w) w.heap.size rfl (.tmp 17) (.tmp 19) 23 3 (.int .i64 0) 8 rfl Try.underlying23 info3 rfl (by decide) (by omega) _ (nI (whereTo cc (fun x => x.testBit v) i)) (i : Int) [.int .i64 (i : Int)] (fun _ => True) (fun _ => False) rfl rfl ?aP (fun _ hk => hk.elim) ?aF ?aO ?aB ?aS ?aL ?_; (case aP => exact rfl); (case aB => exact (by repeat (first | (with_reducible first | exact HB3.out | apply below_alloc | apply pw_below_drewN | apply below_drew1) | exact HB3.out))); (case aF => exact (fun _ _ => trivial)); (case aO => exact (by (with_reducible repeat (first | apply Kd.R_alloc | apply Kd.R_drewN | apply Kd.R_drew)); exact HR3.out)); (case aS => exact (below_size (by repeat (first | (with_reducible first | exact HB3.out | apply below_alloc | apply pw_below_drewN | apply below_drew1) | exact HB3.out)))); (case aL => have := HLen.out; omega); intro v243 w7 ho hb hg hat; rw [HTK.out] at ho; have HB9 := Aside0.mk (hb); have HR9 := Aside0.mk (ho); clear HB3; clear HR3; clear ho hb hg hat))
        go_roundw
        case rel => exact ⟨i + 1, by rw [w64 (by have := Hct.out; have := HM.out; omega) (by have := Hct.out; have := HM.out; omega)]; rfl, ⟨Hct.out⟩, HR9, HB9⟩
        case measure => rw [w64 (by have := Hct.out; have := HM.out; omega) (by have := Hct.out; have := HM.out; omega)]; have := Hct.out; simp [intOf]; omega
      | false =>
        rw [if_neg (by decide)] at hsu
        have HTK := Aside0.mk hsu
        clear hsu
        go_wp2_with (first | (go_at_call 74; (with_reducible refine (HSw.out).mono ?_); rintro e w2 ⟨rfl, hb⟩; have HB2 := Aside0.mk (HB.out.trans (hb.mono HB.out.size)); have HR2 := Aside0.mk (Kd.R_below HR.out hb); clear hb) | (go_at_call 72; (with_reducible refine (ask_shown x v Bv HXl.out HV.out _ (pw_cell_below HB2.out HCv.out) false HBb.out).mono ?_); rintro e w3 ⟨rfl, ⟨nd, rfl⟩⟩))
        go_roundw
        case rel => exact ⟨i + 1, by rw [w64 (by have := Hct.out; have := HM.out; omega) (by have := Hct.out; have := HM.out; omega)]; rfl, ⟨Hct.out⟩, ⟨by rw [HTK.out]; exact Kd.R_drewN HR2.out _⟩, ⟨pw_below_drewN HB2.out _⟩⟩
        case measure => rw [w64 (by have := Hct.out; have := HM.out; omega) (by have := Hct.out; have := HM.out; omega)]; have := Hct.out; simp [intOf]; omega
    · have c1b : decide ((i : Int) < (M : Int)) = false := decide_eq_false ct
      have c1c : decide (i < M) = false := decide_eq_false (by omega)
      have hiM : M = i := by have := Hi.out; omega
      subst hiM
      clear ct
      go_wp2
      go_ret
      exact ⟨_, rfl, HR.out, HB.out⟩
end Go.Proofs.Ytelfalicickelaa.P
